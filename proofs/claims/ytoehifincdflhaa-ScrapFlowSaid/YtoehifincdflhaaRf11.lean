/- The reference's look at a book (layer 11): isLine, Check; the account's checks. -/
import Derived.Test.YtoehifincdflhaaSm11
namespace Go.Proofs.Ytoehifincdflhaa
open Go.RowKit
open Go.Sort (grow)
set_option linter.unusedVariables false

def isEnd (n : Int) (np : Nat) : Bool := !((n != -1) && !isNo n np)

def ckLn (np : Nat) (l : Ln) : Bool := isEnd l.fr np && (isEnd l.to np && ((l.fr != l.to) && (wi l.s.lo 0 l.s.hi && (wi l.w.lo l.s.hi l.w.hi && decide (l.w.hi ≤ 999)))))

theorem ckLn_f1 {np : Nat} {l : Ln} (h : isEnd l.fr np = false) : ckLn np l = false := by simp [ckLn, h]
theorem ckLn_f2 {np : Nat} {l : Ln} (h : isEnd l.to np = false) : ckLn np l = false := by simp [ckLn, h]

set_option maxHeartbeats 400000 in
theorem refIsLine_c (Ap Al : Option Addr) (np cp nl cl : Nat) (wr : Int) (l : Ln) (w : World) (h : np ≤ 40) :
    Calls Try.prog 65 #[.agg #[.slice Ap np cp, .slice Al nl cl, .int .i64 wr], .agg #[.int .i64 l.fr, .int .i64 l.to, .int .i64 l.w.lo, .int .i64 l.w.hi, .int .i64 l.s.lo, .int .i64 l.s.hi]] w
      fun e w' => e = .returned (.bool (ckLn np l)) ∧ Below w.heap.size w w' := by
  go_enter Try.func65, Try.ntmps65
  go_wp2
  go_name_world W hW
  obtain ⟨hB, hz⟩ := al2 hW
  obtain ⟨l_0, q_0, f_0⟩ := al2_0 hW
  obtain ⟨l_1, q_1, f_1⟩ := al2_1 hW
  have HZ := Lib.hid hz
  have zs := hB.size
  clear hW hz
  go_loopw [5] (fun i (wr : World) => ∃ k : Nat, k ≤ 2 ∧ i = .int .i64 k ∧ (1 ≤ k → isEnd l.fr np = true) ∧ (2 ≤ k → isEnd l.to np = true) ∧ Below W.heap.size W wr) (fun i _ => 2 - (intOf i).toNat)
  case atStart => exact ⟨0, by omega, rfl, by omega, by omega, Below.refl _ _⟩
  case round =>
    obtain ⟨k, hk, rfl, h1, h2, hb⟩ := hrel
    have H1 := Lib.hid h1
    have H2 := Lib.hid h2
    clear h1 h2
    obtain ⟨hc, hf⟩ := bcell hb
    have zb := hb.size
    have m0 := Nat.lt_of_lt_of_le l_0 zb
    have m1 := Nat.lt_of_lt_of_le l_1 zb
    obtain rfl | rfl | rfl : k = 0 ∨ k = 1 ∨ k = 2 := by omega
    · cases e1 : (l.fr != -1)
      all_goals
        go_wp2_with (go_at_call 27; refine (IsPlace_c _ _ _ _ _ _ _ _ _ h).mono ?_; (rintro e w1 ⟨rfl, hb1⟩; obtain ⟨hc1, hf1⟩ := bcell hb1; have zs1 := hb1.size; (try simp at zs1)))
      all_goals first
        | (go_roundw
           case rel => exact ⟨1, by omega, rfl, fun _ => by simp only [isEnd, *]; rfl, by omega, by (repeat first | with_reducible assumption | with_reducible exact Below.refl _ _ | refine below_drewN ?_ _ | refine Below.drew ?_ | refine Below.alloc ?_ (by first | omega | (with_reducible exact Below.size (by assumption)) | (simp; done) | (simp; omega)) _ | refine Below.setCell ?_ (by first | omega | (with_reducible exact Below.size (by assumption)) | (simp; done) | (simp; omega)) _ | refine below_step (by assumption) (by first | omega | (with_reducible exact Below.size (by assumption)) | (simp; done) | (simp; omega)) ?_)⟩
           case measure => simp [intOf])
        | (go_ret
           exact ⟨ret_bool (ckLn_f1 (by simp only [isEnd, *]; rfl)).symm, by (repeat first | with_reducible assumption | with_reducible exact Below.refl _ _ | refine below_drewN ?_ _ | refine Below.drew ?_ | refine Below.alloc ?_ (by first | omega | (with_reducible exact Below.size (by assumption)) | (simp; done) | (simp; omega)) _ | refine Below.setCell ?_ (by first | omega | (with_reducible exact Below.size (by assumption)) | (simp; done) | (simp; omega)) _ | refine below_step (by assumption) (by first | omega | (with_reducible exact Below.size (by assumption)) | (simp; done) | (simp; omega)) ?_)⟩)
    · cases e1 : (l.to != -1)
      all_goals
        go_wp2_with (go_at_call 27; refine (IsPlace_c _ _ _ _ _ _ _ _ _ h).mono ?_; (rintro e w1 ⟨rfl, hb1⟩; obtain ⟨hc1, hf1⟩ := bcell hb1; have zs1 := hb1.size; (try simp at zs1)))
      all_goals first
        | (go_roundw
           case rel => exact ⟨2, by omega, rfl, fun _ => H1.out (by omega), fun _ => by simp only [isEnd, *]; rfl, by (repeat first | with_reducible assumption | with_reducible exact Below.refl _ _ | refine below_drewN ?_ _ | refine Below.drew ?_ | refine Below.alloc ?_ (by first | omega | (with_reducible exact Below.size (by assumption)) | (simp; done) | (simp; omega)) _ | refine Below.setCell ?_ (by first | omega | (with_reducible exact Below.size (by assumption)) | (simp; done) | (simp; omega)) _ | refine below_step (by assumption) (by first | omega | (with_reducible exact Below.size (by assumption)) | (simp; done) | (simp; omega)) ?_)⟩
           case measure => simp [intOf])
        | (go_ret
           exact ⟨ret_bool (ckLn_f2 (by simp only [isEnd, *]; rfl)).symm, by (repeat first | with_reducible assumption | with_reducible exact Below.refl _ _ | refine below_drewN ?_ _ | refine Below.drew ?_ | refine Below.alloc ?_ (by first | omega | (with_reducible exact Below.size (by assumption)) | (simp; done) | (simp; omega)) _ | refine Below.setCell ?_ (by first | omega | (with_reducible exact Below.size (by assumption)) | (simp; done) | (simp; omega)) _ | refine below_step (by assumption) (by first | omega | (with_reducible exact Below.size (by assumption)) | (simp; done) | (simp; omega)) ?_)⟩)
    · have g1 := H1.out (by omega)
      have g2 := H2.out (by omega)
      cases e1 : (l.fr != l.to)
      all_goals
        go_wp2_with (go_at_call 45; refine (withinR_c _ _ _ _).mono ?_; rintro e w' ⟨rfl, rfl⟩)
      all_goals
        go_ret
        exact ⟨ret_bool (by simp only [ckLn, *]; rfl), by (repeat first | with_reducible assumption | with_reducible exact Below.refl _ _ | refine below_drewN ?_ _ | refine Below.drew ?_ | refine Below.alloc ?_ (by first | omega | (with_reducible exact Below.size (by assumption)) | (simp; done) | (simp; omega)) _ | refine Below.setCell ?_ (by first | omega | (with_reducible exact Below.size (by assumption)) | (simp; done) | (simp; omega)) _ | refine below_step (by assumption) (by first | omega | (with_reducible exact Below.size (by assumption)) | (simp; done) | (simp; omega)) ?_)⟩

def ckSp (p : Sp) : Bool := !((!wi p.lo (-999) p.hi) || decide (999 < p.hi))

/-- a book is valid -/
def ckBk (np nl : Nat) (pl : List Sp) (ls : List Ln) (wr : Int) : Bool :=
  !((decide (5 < (np : Int)) || decide (8 < (nl : Int))) || !wi wr 0 8) && (allN np (fun k => ckSp (spAt pl k)) && allN nl (fun k => ckLn np (lnAt ls k)))

def erB (b : Bool) : Int := bif b then 0 else 110

theorem ckBk_p {np nl : Nat} {pl : List Sp} {ls : List Ln} {wr : Int} {k : Nat} (hk : k < np) (h : ckSp (spAt pl k) = false) : erB (ckBk np nl pl ls wr) = 110 := by
  have : allN np (fun k => ckSp (spAt pl k)) = false := allN_no hk h
  simp [erB, ckBk, this]
theorem ckBk_l {np nl : Nat} {pl : List Sp} {ls : List Ln} {wr : Int} {k : Nat} (hk : k < nl) (h : ckLn np (lnAt ls k) = false) : erB (ckBk np nl pl ls wr) = 110 := by
  have : allN nl (fun k => ckLn np (lnAt ls k)) = false := allN_no hk h
  simp [erB, ckBk, this]
theorem ckBk_yes {np nl : Nat} {pl : List Sp} {ls : List Ln} {wr : Int} (g1 : (np : Int) ≤ 5) (g2 : (nl : Int) ≤ 8) (g3 : wi wr 0 8 = true)
    (g4 : allN np (fun k => ckSp (spAt pl k)) = true) (g5 : allN nl (fun k => ckLn np (lnAt ls k)) = true) : erB (ckBk np nl pl ls wr) = 0 := by
  have h1 : decide (5 < (np : Int)) = false := by simp; omega
  have h2 : decide (8 < (nl : Int)) = false := by simp; omega
  simp only [erB, ckBk, h1, h2, g3, g4, g5]; rfl
theorem ckSp_0 {p : Sp} (h : wi p.lo (-999) p.hi = false) : ckSp p = false := by simp [ckSp, h]
theorem ckSp_1 {p : Sp} (h : 999 < p.hi) : ckSp p = false := by simp [ckSp, h]

set_option maxHeartbeats 400000 in
theorem refCheck_c (Ap Al : Option Addr) (np cp nl cl : Nat) (wrg : Int) (pl : List Sp) (ls : List Ln) (w : World) (hp : np ≤ 40) (hl : nl ≤ 40) (HP : SpsAt w Ap np pl) (HL : LnsAt w Al nl ls) :
    Calls Try.prog 38 #[.agg #[.slice Ap np cp, .slice Al nl cl, .int .i64 wrg]] w
      fun e w' => e = .returned (.int .i64 (erB (ckBk np nl pl ls wrg))) ∧ Below w.heap.size w w' := by
  have HPI := Lib.hid HP
  have HLI := Lib.hid HL
  clear HP HL
  by_cases g1 : (5 : Int) < np
  · go_enter Try.func38, Try.ntmps38
    go_wp2
    go_ret
    exact ⟨ret_int (by simp [ckBk, erB, g1]), by (repeat first | with_reducible assumption | with_reducible exact Below.refl _ _ | refine below_drewN ?_ _ | refine Below.drew ?_ | refine Below.alloc ?_ (by first | omega | (with_reducible exact Below.size (by assumption)) | (simp; done) | (simp; omega)) _ | refine Below.setCell ?_ (by first | omega | (with_reducible exact Below.size (by assumption)) | (simp; done) | (simp; omega)) _ | refine below_step (by assumption) (by first | omega | (with_reducible exact Below.size (by assumption)) | (simp; done) | (simp; omega)) ?_)⟩
  by_cases g2 : (8 : Int) < nl
  · go_enter Try.func38, Try.ntmps38
    go_wp2
    go_ret
    exact ⟨ret_int (by simp [ckBk, erB, g2]), by (repeat first | with_reducible assumption | with_reducible exact Below.refl _ _ | refine below_drewN ?_ _ | refine Below.drew ?_ | refine Below.alloc ?_ (by first | omega | (with_reducible exact Below.size (by assumption)) | (simp; done) | (simp; omega)) _ | refine Below.setCell ?_ (by first | omega | (with_reducible exact Below.size (by assumption)) | (simp; done) | (simp; omega)) _ | refine below_step (by assumption) (by first | omega | (with_reducible exact Below.size (by assumption)) | (simp; done) | (simp; omega)) ?_)⟩
  cases g3 : wi wrg 0 8
  · go_enter Try.func38, Try.ntmps38
    go_wp2_with (go_at_call 45; refine (withinR_c _ _ _ _).mono ?_; rintro e w' ⟨rfl, rfl⟩)
    go_ret
    exact ⟨ret_int (by simp [ckBk, erB, g3]), by (repeat first | with_reducible assumption | with_reducible exact Below.refl _ _ | refine below_drewN ?_ _ | refine Below.drew ?_ | refine Below.alloc ?_ (by first | omega | (with_reducible exact Below.size (by assumption)) | (simp; done) | (simp; omega)) _ | refine Below.setCell ?_ (by first | omega | (with_reducible exact Below.size (by assumption)) | (simp; done) | (simp; omega)) _ | refine below_step (by assumption) (by first | omega | (with_reducible exact Below.size (by assumption)) | (simp; done) | (simp; omega)) ?_)⟩
  go_enter Try.func38, Try.ntmps38
  go_wp2_with (go_at_call 45; refine (withinR_c _ _ _ _).mono ?_; rintro e w' ⟨rfl, rfl⟩)
  go_name_world W hW
  obtain ⟨hB, hz⟩ := al1 hW
  obtain ⟨l_0, q_0, f_0⟩ := al1_0 hW
  have HZ := Lib.hid hz
  have zs := hB.size
  clear hW hz
  go_loopw [3] (fun i (wr : World) => ∃ k : Nat, k ≤ np ∧ i = .int .i64 k ∧ Hid (∀ j, j < k → ckSp (spAt pl j) = true) ∧ Below W.heap.size W wr) (fun i _ => np - (intOf i).toNat)
  case atStart => exact ⟨0, by omega, rfl, fun j hj => absurd hj (by omega), Below.refl _ _⟩
  case round =>
    obtain ⟨k, hk, rfl, H1, hb⟩ := hrel
    obtain ⟨hc, hf⟩ := bcell hb
    have zb := hb.size
    have m0 := Nat.lt_of_lt_of_le l_0 zb
    by_cases hlt : k < np
    · obtain ⟨bp, op, rfl, hbp, x0, x1⟩ := (HPI.out.later (by (repeat first | with_reducible assumption | with_reducible exact Below.refl _ _ | refine below_drewN ?_ _ | refine Below.drew ?_ | refine Below.alloc ?_ (by first | omega | (with_reducible exact Below.size (by assumption)) | (simp; done) | (simp; omega)) _ | refine Below.setCell ?_ (by first | omega | (with_reducible exact Below.size (by assumption)) | (simp; done) | (simp; omega)) _ | refine below_step (by assumption) (by first | omega | (with_reducible exact Below.size (by assumption)) | (simp; done) | (simp; omega)) ?_) : Below w.heap.size w wr)).get hlt
      cases e1 : wi (spAt pl k).lo (-999) (spAt pl k).hi
      · go_wp2
        go_quiet ((go_at_call 45; exact quiet_left (withinR_c _ _ _ _)))
        go_wp2
        go_ret
        exact ⟨ret_int (by exact (ckBk_p hlt (ckSp_0 e1)).symm), by (repeat first | with_reducible assumption | with_reducible exact Below.refl _ _ | refine below_drewN ?_ _ | refine Below.drew ?_ | refine Below.alloc ?_ (by first | omega | (with_reducible exact Below.size (by assumption)) | (simp; done) | (simp; omega)) _ | refine Below.setCell ?_ (by first | omega | (with_reducible exact Below.size (by assumption)) | (simp; done) | (simp; omega)) _ | refine below_step (by assumption) (by first | omega | (with_reducible exact Below.size (by assumption)) | (simp; done) | (simp; omega)) ?_)⟩
      · by_cases e2 : 999 < (spAt pl k).hi
        · go_wp2
          go_quiet ((go_at_call 45; exact quiet_left (withinR_c _ _ _ _)))
          go_wp2
          go_ret
          exact ⟨ret_int (by exact (ckBk_p hlt (ckSp_1 e2)).symm), by (repeat first | with_reducible assumption | with_reducible exact Below.refl _ _ | refine below_drewN ?_ _ | refine Below.drew ?_ | refine Below.alloc ?_ (by first | omega | (with_reducible exact Below.size (by assumption)) | (simp; done) | (simp; omega)) _ | refine Below.setCell ?_ (by first | omega | (with_reducible exact Below.size (by assumption)) | (simp; done) | (simp; omega)) _ | refine below_step (by assumption) (by first | omega | (with_reducible exact Below.size (by assumption)) | (simp; done) | (simp; omega)) ?_)⟩
        · go_wp2
          go_quiet ((go_at_call 45; exact quiet_left (withinR_c _ _ _ _)))
          go_wp2
          go_roundw
          case rel => exact ⟨k + 1, by omega, by go_num, fun j hj => by
            rcases Nat.lt_succ_iff_lt_or_eq.1 hj with h | rfl
            · exact H1.out j h
            · simp [ckSp, e1, e2], by (repeat first | with_reducible assumption | with_reducible exact Below.refl _ _ | refine below_drewN ?_ _ | refine Below.drew ?_ | refine Below.alloc ?_ (by first | omega | (with_reducible exact Below.size (by assumption)) | (simp; done) | (simp; omega)) _ | refine Below.setCell ?_ (by first | omega | (with_reducible exact Below.size (by assumption)) | (simp; done) | (simp; omega)) _ | refine below_step (by assumption) (by first | omega | (with_reducible exact Below.size (by assumption)) | (simp; done) | (simp; omega)) ?_)⟩
          case measure => simp [intOf]; omega
    · obtain rfl : np = k := by omega
      have HA := Lib.hid (allN_iff.2 H1.out)
      clear H1
      go_wp2
      clear hc hf zb m0
      obtain ⟨wo, rfl⟩ : ∃ wo : World, wo = wr := ⟨_, rfl⟩
      go_loopw [4] (fun i (ws : World) => ∃ k : Nat, k ≤ nl ∧ i = .int .i64 k ∧ Hid (∀ j, j < k → ckLn np (lnAt ls j) = true) ∧ Below W.heap.size W ws) (fun i _ => nl - (intOf i).toNat)
      case atStart => exact ⟨0, by omega, rfl, fun j hj => absurd hj (by omega), hb⟩
      case round =>
        obtain ⟨k, hk, rfl, H1, hb⟩ := hrel
        obtain ⟨hc, hf⟩ := bcell hb
        have zb := hb.size
        have m0 := Nat.lt_of_lt_of_le l_0 zb
        by_cases hlt : k < nl
        · have hbw : Below w.heap.size w wr := by (repeat first | with_reducible assumption | with_reducible exact Below.refl _ _ | refine below_drewN ?_ _ | refine Below.drew ?_ | refine Below.alloc ?_ (by first | omega | (with_reducible exact Below.size (by assumption)) | (simp; done) | (simp; omega)) _ | refine Below.setCell ?_ (by first | omega | (with_reducible exact Below.size (by assumption)) | (simp; done) | (simp; omega)) _ | refine below_step (by assumption) (by first | omega | (with_reducible exact Below.size (by assumption)) | (simp; done) | (simp; omega)) ?_)
          obtain ⟨bl, ol, rfl, hbl, x0, x1, x2, x3, x4, x5⟩ := (HLI.out.later hbw).get hlt
          go_wp2
          have hcq := fun p : Regrown => (bcell (below_regrown wr p.d p.os)).1
          refine wp_region_quiet_below (by kernel_rfl) (by kernel_rfl) ?_
          repeat (go_big_quiet_step (((go_at_call 65; exact Calls.regrown_of (refIsLine_c _ _ _ _ _ _ _ _ _ hp)))))
          refine wpQuiet_nil ?_
          intro wq hq
          obtain ⟨pq, hq⟩ := hq
          have hbq : Below wr.heap.size wr wq := by rw [hq]; exact below_regrown _ _ _
          clear hq hcq pq
          obtain ⟨hcq, hfq⟩ := bcell hbq
          have zq := hbq.size
          go_wp2
          all_goals first
            | (go_roundw
               case rel => exact ⟨k + 1, by omega, by go_num, fun j hj => by
                 rcases Nat.lt_succ_iff_lt_or_eq.1 hj with h | rfl
                 · exact H1.out j h
                 · rename_i h; simpa using h, by (repeat first | with_reducible assumption | with_reducible exact Below.refl _ _ | refine below_drewN ?_ _ | refine Below.drew ?_ | refine Below.alloc ?_ (by first | omega | (with_reducible exact Below.size (by assumption)) | (simp; done) | (simp; omega)) _ | refine Below.setCell ?_ (by first | omega | (with_reducible exact Below.size (by assumption)) | (simp; done) | (simp; omega)) _ | refine below_step (by assumption) (by first | omega | (with_reducible exact Below.size (by assumption)) | (simp; done) | (simp; omega)) ?_)⟩
               case measure => simp [intOf]; omega)
            | (go_ret
               rename_i h
               exact ⟨ret_int (ckBk_l hlt (by simpa using h)).symm, by (repeat first | with_reducible assumption | with_reducible exact Below.refl _ _ | refine below_drewN ?_ _ | refine Below.drew ?_ | refine Below.alloc ?_ (by first | omega | (with_reducible exact Below.size (by assumption)) | (simp; done) | (simp; omega)) _ | refine Below.setCell ?_ (by first | omega | (with_reducible exact Below.size (by assumption)) | (simp; done) | (simp; omega)) _ | refine below_step (by assumption) (by first | omega | (with_reducible exact Below.size (by assumption)) | (simp; done) | (simp; omega)) ?_)⟩)
        · obtain rfl : nl = k := by omega
          have HC := Lib.hid (allN_iff.2 H1.out)
          clear H1
          go_wp2
          go_ret
          exact ⟨ret_int (ckBk_yes g1 g2 g3 HA.out HC.out).symm, by (repeat first | with_reducible assumption | with_reducible exact Below.refl _ _ | refine below_drewN ?_ _ | refine Below.drew ?_ | refine Below.alloc ?_ (by first | omega | (with_reducible exact Below.size (by assumption)) | (simp; done) | (simp; omega)) _ | refine Below.setCell ?_ (by first | omega | (with_reducible exact Below.size (by assumption)) | (simp; done) | (simp; omega)) _ | refine below_step (by assumption) (by first | omega | (with_reducible exact Below.size (by assumption)) | (simp; done) | (simp; omega)) ?_)⟩

end Go.Proofs.Ytoehifincdflhaa
