/- In and SameInts of the specification of layer 1; The small functions of layer 11 that read no slice; The reference's look at a book (layer 11): isLine, Check; the account's checks. -/
import Derived.Test.YtdhlnlmhdacblaaChecked
import Derived.Test.YtdhlnlmhdacblaaTs01
namespace Go.Proofs.Ytdhlnlmhdacblaa
open Go.RowKit
open Go.Sort (grow)
set_option linter.unusedVariables false
set_option linter.unusedSimpArgs false

set_option maxHeartbeats 400000 in
theorem In_c (A : Option Addr) (n c : Nat) (x : Int) (xs : List Int) (w : World) (hn : n ≤ 40) (HX : IntsAt w A n xs) :
    Calls Try.prog 100 #[.slice A n c, .int .i64 x] w fun e w' => e = .returned (.bool (anyN n fun k => iAt xs k == x)) ∧ w = w' := by
  go_enter Try.func100, Try.ntmps100
  go_wp2
  go_loopw [5] (fun i (wr : World) => ∃ k : Nat, k ≤ n ∧ i = .int .i64 k ∧ Hid (∀ j, j < k → (iAt xs j == x) = false) ∧ wr = w) (fun i _ => n - (intOf i).toNat)
  case atStart => exact ⟨0, by omega, rfl, fun j hj => absurd hj (by omega), rfl⟩
  case round =>
    obtain ⟨k, hk, rfl, H, rfl⟩ := hrel
    by_cases hlt : k < n
    · obtain ⟨b, o, rfl, hb, x0⟩ := HX.get hlt
      have hB : decide ((k : Int) < n) = true := by simp; omega
      cases e1 : (iAt xs k == x)
      · go_wp2
        go_roundw
        case rel => exact ⟨k + 1, by omega, by go_num, fun j hj => by
          rcases Nat.lt_succ_iff_lt_or_eq.1 hj with h | rfl
          · exact H.out j h
          · exact e1, trivial⟩
        case measure => simp [intOf]; omega
      · have hA := anyN_yes (p := fun k => iAt xs k == x) hlt e1
        go_wp2
        go_ret
        exact ⟨ret_bool hA.symm, rfl⟩
    · obtain rfl : n = k := by omega
      have hA := anyN_no (p := fun k => iAt xs k == x) H.out
      have hB : decide (((n : Nat) : Int) < n) = false := by simp
      clear H
      go_wp2
      go_ret
      exact ⟨ret_bool hA.symm, rfl⟩

set_option maxHeartbeats 400000 in
theorem SameInts_c (A B : Option Addr) (n m c d : Nat) (xs ys : List Int) (w : World) (hn : n ≤ 40) (hm : m ≤ 40) (HX : IntsAt w A n xs) (HY : IntsAt w B m ys) :
    Calls Try.prog 24 #[.slice A n c, .slice B m d] w fun e w' => e = .returned (.bool (n == m && allN n fun k => iAt xs k == iAt ys k)) ∧ Below w.heap.size w w' := by
  cases e0 : (n == m)
  · have hne : n ≠ m := by simpa using e0
    go_enter Try.func24, Try.ntmps24
    go_wp2
    go_ret
    exact ⟨rfl, by (repeat first | with_reducible assumption | with_reducible exact Below.refl _ _ | refine below_drewN ?_ _ | refine Below.drew ?_ | refine Below.alloc ?_ (by first | omega | (with_reducible exact Below.size (by assumption)) | (simp; done) | (simp; omega)) _ | refine Below.setCell ?_ (by first | omega | (with_reducible exact Below.size (by assumption)) | (simp; done) | (simp; omega)) _ | refine below_step (by assumption) (by first | omega | (with_reducible exact Below.size (by assumption)) | (simp; done) | (simp; omega)) ?_)⟩
  obtain rfl : n = m := by simpa using e0
  go_enter Try.func24, Try.ntmps24
  go_wp2
  go_loopw [5] (fun i (wr : World) => ∃ k : Nat, k ≤ n ∧ i = .int .i64 k ∧ Hid (∀ j, j < k → (iAt xs j == iAt ys j) = true) ∧ Below w.heap.size w wr) (fun i _ => n - (intOf i).toNat)
  case atStart => exact ⟨0, by omega, rfl, fun j hj => absurd hj (by omega), Below.refl _ _⟩
  case round =>
    obtain ⟨k, hk, rfl, H, hb⟩ := hrel
    by_cases hlt : k < n
    · obtain ⟨b, o, rfl, hb1, x0⟩ := (HX.later hb).get hlt
      obtain ⟨b', o', rfl, hb2, y0⟩ := (HY.later hb).get hlt
      have hB : decide ((k : Int) < n) = true := by simp; omega
      cases e1 : (iAt xs k == iAt ys k)
      · have hA : allN n (fun k => iAt xs k == iAt ys k) = false := allN_no hlt e1
        go_wp2
        go_quiet (fail)
        go_wp2
        go_ret
        exact ⟨ret_bool (by rw [hA]; simp), by (repeat first | with_reducible assumption | with_reducible exact Below.refl _ _ | refine below_drewN ?_ _ | refine Below.drew ?_ | refine Below.alloc ?_ (by first | omega | (with_reducible exact Below.size (by assumption)) | (simp; done) | (simp; omega)) _ | refine Below.setCell ?_ (by first | omega | (with_reducible exact Below.size (by assumption)) | (simp; done) | (simp; omega)) _ | refine below_step (by assumption) (by first | omega | (with_reducible exact Below.size (by assumption)) | (simp; done) | (simp; omega)) ?_)⟩
      · go_wp2
        go_quiet (fail)
        go_wp2
        go_roundw
        case rel => exact ⟨k + 1, by omega, by go_num, fun j hj => by
          rcases Nat.lt_succ_iff_lt_or_eq.1 hj with h | rfl
          · exact H.out j h
          · exact e1, by (repeat first | with_reducible assumption | with_reducible exact Below.refl _ _ | refine below_drewN ?_ _ | refine Below.drew ?_ | refine Below.alloc ?_ (by first | omega | (with_reducible exact Below.size (by assumption)) | (simp; done) | (simp; omega)) _ | refine Below.setCell ?_ (by first | omega | (with_reducible exact Below.size (by assumption)) | (simp; done) | (simp; omega)) _ | refine below_step (by assumption) (by first | omega | (with_reducible exact Below.size (by assumption)) | (simp; done) | (simp; omega)) ?_)⟩
        case measure => simp [intOf]; omega
    · obtain rfl : n = k := by omega
      have hA := Lib.hid (allN_iff.2 H.out)
      have hB : decide (((n : Nat) : Int) < n) = false := by simp
      clear H
      go_wp2
      go_ret
      exact ⟨ret_bool (by rw [hA.out]; rfl), by (repeat first | with_reducible assumption | with_reducible exact Below.refl _ _ | refine below_drewN ?_ _ | refine Below.drew ?_ | refine Below.alloc ?_ (by first | omega | (with_reducible exact Below.size (by assumption)) | (simp; done) | (simp; omega)) _ | refine Below.setCell ?_ (by first | omega | (with_reducible exact Below.size (by assumption)) | (simp; done) | (simp; omega)) _ | refine below_step (by assumption) (by first | omega | (with_reducible exact Below.size (by assumption)) | (simp; done) | (simp; omega)) ?_)⟩

end Go.Proofs.Ytdhlnlmhdacblaa

namespace Go.Proofs.Ytdhlnlmhdacblaa
open Go.RowKit
open Go.Sort (grow)
set_option linter.unusedVariables false
set_option linter.unusedSimpArgs false

def wi_q11 (n a b : Int) : Bool := decide (a ≤ n) && decide (n ≤ b)

set_option maxHeartbeats 400000 in
theorem within_c_q11 (n a b : Int) (w : World) :
    Calls Try.prog 59 #[.int .i64 n, .int .i64 a, .int .i64 b] w fun e w' => e = .returned (.bool (wi_q11 n a b)) ∧ w = w' := by
  go_enter Try.func59, Try.ntmps59
  go_wp2
  all_goals
    go_ret
    exact ⟨ret_bool (by simp [wi_q11, *] <;> omega), rfl⟩

set_option maxHeartbeats 400000 in
theorem Within1_c_q11 (n a b : Int) (w : World) :
    Calls Try.prog 40 #[.int .i64 n, .int .i64 a, .int .i64 b] w fun e w' => e = .returned (.bool (wi_q11 n a b)) ∧ w = w' := by
  go_enter Try.func40, Try.ntmps40
  go_wp2
  all_goals
    go_ret
    exact ⟨ret_bool (by simp [wi_q11, *] <;> omega), rfl⟩

/-- the numbers of n things: 0 to n - 1 -/
def isNo (i : Int) (n : Nat) : Bool := wi_q11 i 0 (n - 1)

set_option maxHeartbeats 400000 in
theorem isLine_c (Ap Al : Option Addr) (np cp nl cl : Nat) (wr i : Int) (w : World) (h : nl ≤ 40) :
    Calls Try.prog 44 #[.agg #[.slice Ap np cp, .slice Al nl cl, .int .i64 wr], .int .i64 i] w fun e w' => e = .returned (.bool (isNo i nl)) ∧ Below w.heap.size w w' := by
  go_enter Try.func44, Try.ntmps44
  go_wp2_with (go_at_call 59; refine (within_c_q11 _ _ _ _).mono ?_; rintro e w' ⟨rfl, rfl⟩)
  go_ret
  exact ⟨rfl, by (repeat first | with_reducible assumption | with_reducible exact Below.refl _ _ | refine below_drewN ?_ _ | refine Below.drew ?_ | refine Below.alloc ?_ (by first | omega | (with_reducible exact Below.size (by assumption)) | (simp; done) | (simp; omega)) _ | refine Below.setCell ?_ (by first | omega | (with_reducible exact Below.size (by assumption)) | (simp; done) | (simp; omega)) _ | refine below_step (by assumption) (by first | omega | (with_reducible exact Below.size (by assumption)) | (simp; done) | (simp; omega)) ?_)⟩

set_option maxHeartbeats 400000 in
theorem isPlace_c (Ap Al : Option Addr) (np cp nl cl : Nat) (wr i : Int) (w : World) (h : np ≤ 40) :
    Calls Try.prog 38 #[.agg #[.slice Ap np cp, .slice Al nl cl, .int .i64 wr], .int .i64 i] w fun e w' => e = .returned (.bool (isNo i np)) ∧ Below w.heap.size w w' := by
  go_enter Try.func38, Try.ntmps38
  go_wp2_with (go_at_call 59; refine (within_c_q11 _ _ _ _).mono ?_; rintro e w' ⟨rfl, rfl⟩)
  go_ret
  exact ⟨rfl, by (repeat first | with_reducible assumption | with_reducible exact Below.refl _ _ | refine below_drewN ?_ _ | refine Below.drew ?_ | refine Below.alloc ?_ (by first | omega | (with_reducible exact Below.size (by assumption)) | (simp; done) | (simp; omega)) _ | refine Below.setCell ?_ (by first | omega | (with_reducible exact Below.size (by assumption)) | (simp; done) | (simp; omega)) _ | refine below_step (by assumption) (by first | omega | (with_reducible exact Below.size (by assumption)) | (simp; done) | (simp; omega)) ?_)⟩

def isKn_q11 (e : Int) : Bool := (e == 0) || (e == 3)

def insd (a b : Sp) : Bool := decide (b.lo ≤ a.lo) && (decide (a.lo ≤ a.hi) && decide (a.hi ≤ b.hi))

def nodeZ (n : Int) : Int := if n < 0 then 5 else n

set_option maxHeartbeats 400000 in
theorem node_c (n : Int) (w : World) :
    Calls Try.prog 81 #[.int .i64 n] w fun e w' => e = .returned (.int .i64 (nodeZ n)) ∧ w = w' := by
  go_enter Try.func81, Try.ntmps81
  go_wp2
  all_goals
    go_ret
    exact ⟨ret_int (by unfold nodeZ; split <;> omega), rfl⟩

end Go.Proofs.Ytdhlnlmhdacblaa

namespace Go.Proofs.Ytdhlnlmhdacblaa
open Go.RowKit
open Go.Sort (grow)
set_option linter.unusedVariables false
set_option linter.unusedSimpArgs false

def isEnd (n : Int) (np : Nat) : Bool := !((n != -1) && !isNo n np)

def ckLn (np : Nat) (l : Ln) : Bool := isEnd l.fr np && (isEnd l.to np && ((l.fr != l.to) && (wi_q11 l.s.lo 0 l.s.hi && (wi_q11 l.w.lo l.s.hi l.w.hi && decide (l.w.hi ≤ 999)))))

theorem ckLn_f1 {np : Nat} {l : Ln} (h : isEnd l.fr np = false) : ckLn np l = false := by simp [ckLn, h]
theorem ckLn_f2 {np : Nat} {l : Ln} (h : isEnd l.to np = false) : ckLn np l = false := by simp [ckLn, h]

def ckSp (p : Sp) : Bool := !((!wi_q11 p.lo (-999) p.hi) || decide (999 < p.hi))

/-- a book is valid -/
def ckBk (np nl : Nat) (pl : List Sp) (ls : List Ln) (wr : Int) : Bool :=
  !((decide (5 < (np : Int)) || decide (8 < (nl : Int))) || !wi_q11 wr 0 8) && (allN np (fun k => ckSp (spAt pl k)) && allN nl (fun k => ckLn np (lnAt ls k)))

def erB (b : Bool) : Int := bif b then 0 else 110

theorem ckBk_p {np nl : Nat} {pl : List Sp} {ls : List Ln} {wr : Int} {k : Nat} (hk : k < np) (h : ckSp (spAt pl k) = false) : erB (ckBk np nl pl ls wr) = 110 := by
  have : allN np (fun k => ckSp (spAt pl k)) = false := allN_no hk h
  simp [erB, ckBk, this]
theorem ckBk_l {np nl : Nat} {pl : List Sp} {ls : List Ln} {wr : Int} {k : Nat} (hk : k < nl) (h : ckLn np (lnAt ls k) = false) : erB (ckBk np nl pl ls wr) = 110 := by
  have : allN nl (fun k => ckLn np (lnAt ls k)) = false := allN_no hk h
  simp [erB, ckBk, this]
theorem ckBk_yes {np nl : Nat} {pl : List Sp} {ls : List Ln} {wr : Int} (g1 : (np : Int) ≤ 5) (g2 : (nl : Int) ≤ 8) (g3 : wi_q11 wr 0 8 = true)
    (g4 : allN np (fun k => ckSp (spAt pl k)) = true) (g5 : allN nl (fun k => ckLn np (lnAt ls k)) = true) : erB (ckBk np nl pl ls wr) = 0 := by
  have h1 : decide (5 < (np : Int)) = false := by simp; omega
  have h2 : decide (8 < (nl : Int)) = false := by simp; omega
  simp only [erB, ckBk, h1, h2, g3, g4, g5]; rfl
theorem ckSp_0 {p : Sp} (h : wi_q11 p.lo (-999) p.hi = false) : ckSp p = false := by simp [ckSp, h]
theorem ckSp_1 {p : Sp} (h : 999 < p.hi) : ckSp p = false := by simp [ckSp, h]

end Go.Proofs.Ytdhlnlmhdacblaa
