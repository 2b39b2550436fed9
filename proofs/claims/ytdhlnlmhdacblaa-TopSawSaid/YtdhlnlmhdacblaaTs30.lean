/- The program's look at a book (layer 11): Check with its closures; sort.Search over a question that turns at most once. -/
import Derived.Test.YtdhlnlmhdacblaaTs04
import Derived.Shelf.Abstract
import Derived.Laws.EntriesVeiled
import Derived.Test.YtdhlnlmhdacblaaChecked
import Derived.Test.YtdhlnlmhdacblaaTs01
namespace Go.Proofs.Ytdhlnlmhdacblaa
open Go.RowKit
open Go.Sort (grow)
set_option linter.unusedVariables false
set_option linter.unusedSimpArgs false

set_option maxHeartbeats 400000 in
theorem indexFuncSp_c_q11 (A : Option Addr) (n c g : Nat) (fst cap : Array Value) (xs : List Sp) (p : Nat → Bool) (w : World) (hn : n ≤ 40) (HX : SpsAt w A n xs)
    (HE : ∀ args w, (callFunc g args).run Try.prog w = .ok (.enter g args) w)
    (HF : ∀ k, k < n → ∀ w', Below w.heap.size w w' → Calls Try.prog g (fst.push (.agg #[.int .i64 (spAt xs k).lo, .int .i64 (spAt xs k).hi]) ++ cap) w' fun e w'' => e = .returned (.bool (p k)) ∧ Below w'.heap.size w' w'') :
    Calls Try.prog 77 #[.slice A n c, .func (.func g) fst cap] w fun e w' => e = .returned (.int .i64 (idxN n p)) ∧ Below w.heap.size w w' := by
  have HFI := Lib.hid HF
  have HXI := Lib.hid HX
  clear HF HX
  go_enter Try.func77, Try.ntmps77
  go_wp2
  go_loopw [8] (fun i (wr : World) => ∃ k : Nat, k ≤ n ∧ i = .int .i64 k ∧ Hid (∀ j, j < k → p j = false) ∧ Below w.heap.size w wr) (fun i _ => n - (intOf i).toNat)
  case atStart => exact ⟨0, by omega, rfl, fun j hj => absurd hj (by omega), Below.refl _ _⟩
  case round =>
    obtain ⟨k, hk, rfl, H1, hb⟩ := hrel
    have zb := hb.size
    by_cases hlt : k < n
    · obtain ⟨bp, op, rfl, hbp, x0, x1⟩ := (HXI.out.later hb).get hlt
      go_wp2_with fail
      refine (HFI.out k hlt _ hb).mono ?_
      (rintro e w1 ⟨rfl, hb1⟩; obtain ⟨hc1, hf1⟩ := bcell hb1; have zs1 := hb1.size; (try simp at zs1))
      go_wp2
      all_goals first
        | (go_roundw
           case rel => exact ⟨k + 1, by omega, by go_num, fun j hj => by
             rcases Nat.lt_succ_iff_lt_or_eq.1 hj with h | rfl
             · exact H1.out j h
             · rename_i h; simpa using h, by (repeat first | with_reducible assumption | with_reducible exact Below.refl _ _ | refine below_drewN ?_ _ | refine Below.drew ?_ | refine Below.alloc ?_ (by first | omega | (with_reducible exact Below.size (by assumption)) | (simp; done) | (simp; omega)) _ | refine Below.setCell ?_ (by first | omega | (with_reducible exact Below.size (by assumption)) | (simp; done) | (simp; omega)) _ | refine below_step (by assumption) (by first | omega | (with_reducible exact Below.size (by assumption)) | (simp; done) | (simp; omega)) ?_)⟩
           case measure => simp [intOf]; omega)
        | (go_ret
           rename_i h
           exact ⟨ret_int (idxN_some hlt (by simpa using h) H1.out).symm, by (repeat first | with_reducible assumption | with_reducible exact Below.refl _ _ | refine below_drewN ?_ _ | refine Below.drew ?_ | refine Below.alloc ?_ (by first | omega | (with_reducible exact Below.size (by assumption)) | (simp; done) | (simp; omega)) _ | refine Below.setCell ?_ (by first | omega | (with_reducible exact Below.size (by assumption)) | (simp; done) | (simp; omega)) _ | refine below_step (by assumption) (by first | omega | (with_reducible exact Below.size (by assumption)) | (simp; done) | (simp; omega)) ?_)⟩)
    · obtain rfl : n = k := by omega
      go_wp2
      go_ret
      exact ⟨ret_int (idxN_none H1.out).symm, by (repeat first | with_reducible assumption | with_reducible exact Below.refl _ _ | refine below_drewN ?_ _ | refine Below.drew ?_ | refine Below.alloc ?_ (by first | omega | (with_reducible exact Below.size (by assumption)) | (simp; done) | (simp; omega)) _ | refine Below.setCell ?_ (by first | omega | (with_reducible exact Below.size (by assumption)) | (simp; done) | (simp; omega)) _ | refine below_step (by assumption) (by first | omega | (with_reducible exact Below.size (by assumption)) | (simp; done) | (simp; omega)) ?_)⟩

set_option maxHeartbeats 400000 in
theorem containsFuncSp_c_q11 (A : Option Addr) (n c g : Nat) (fst cap : Array Value) (xs : List Sp) (p : Nat → Bool) (w : World) (hn : n ≤ 40) (HX : SpsAt w A n xs)
    (HE : ∀ args w, (callFunc g args).run Try.prog w = .ok (.enter g args) w)
    (HF : ∀ k, k < n → ∀ w', Below w.heap.size w w' → Calls Try.prog g (fst.push (.agg #[.int .i64 (spAt xs k).lo, .int .i64 (spAt xs k).hi]) ++ cap) w' fun e w'' => e = .returned (.bool (p k)) ∧ Below w'.heap.size w' w'') :
    Calls Try.prog 61 #[.slice A n c, .func (.func g) fst cap] w fun e w' => e = .returned (.bool (anyN n p)) ∧ Below w.heap.size w w' := by
  have HC := Lib.hid (indexFuncSp_c_q11 A n c g fst cap xs p w hn HX HE HF)
  clear HF HX
  go_enter Try.func61, Try.ntmps61
  go_wp2_with fail
  refine HC.out.mono ?_
  (rintro e w1 ⟨rfl, hb1⟩; obtain ⟨hc1, hf1⟩ := bcell hb1; have zs1 := hb1.size; (try simp at zs1))
  go_wp2
  go_ret
  exact ⟨ret_bool idxN_ge, by (repeat first | with_reducible assumption | with_reducible exact Below.refl _ _ | refine below_drewN ?_ _ | refine Below.drew ?_ | refine Below.alloc ?_ (by first | omega | (with_reducible exact Below.size (by assumption)) | (simp; done) | (simp; omega)) _ | refine Below.setCell ?_ (by first | omega | (with_reducible exact Below.size (by assumption)) | (simp; done) | (simp; omega)) _ | refine below_step (by assumption) (by first | omega | (with_reducible exact Below.size (by assumption)) | (simp; done) | (simp; omega)) ?_)⟩
set_option maxHeartbeats 400000 in
theorem indexFuncLn_c_q11 (A : Option Addr) (n c g : Nat) (fst cap : Array Value) (xs : List Ln) (p : Nat → Bool) (w : World) (hn : n ≤ 40) (HX : LnsAt w A n xs)
    (HE : ∀ args w, (callFunc g args).run Try.prog w = .ok (.enter g args) w)
    (HF : ∀ k, k < n → ∀ w', Below w.heap.size w w' → Calls Try.prog g (fst.push (.agg #[.int .i64 (lnAt xs k).fr, .int .i64 (lnAt xs k).to, .int .i64 (lnAt xs k).w.lo, .int .i64 (lnAt xs k).w.hi, .int .i64 (lnAt xs k).s.lo, .int .i64 (lnAt xs k).s.hi]) ++ cap) w' fun e w'' => e = .returned (.bool (p k)) ∧ Below w'.heap.size w' w'') :
    Calls Try.prog 78 #[.slice A n c, .func (.func g) fst cap] w fun e w' => e = .returned (.int .i64 (idxN n p)) ∧ Below w.heap.size w w' := by
  have HFI := Lib.hid HF
  have HXI := Lib.hid HX
  clear HF HX
  go_enter Try.func78, Try.ntmps78
  go_wp2
  go_loopw [8] (fun i (wr : World) => ∃ k : Nat, k ≤ n ∧ i = .int .i64 k ∧ Hid (∀ j, j < k → p j = false) ∧ Below w.heap.size w wr) (fun i _ => n - (intOf i).toNat)
  case atStart => exact ⟨0, by omega, rfl, fun j hj => absurd hj (by omega), Below.refl _ _⟩
  case round =>
    obtain ⟨k, hk, rfl, H1, hb⟩ := hrel
    have zb := hb.size
    by_cases hlt : k < n
    · obtain ⟨bp, op, rfl, hbp, x0, x1, x2, x3, x4, x5⟩ := (HXI.out.later hb).get hlt
      go_wp2_with fail
      refine (HFI.out k hlt _ hb).mono ?_
      (rintro e w1 ⟨rfl, hb1⟩; obtain ⟨hc1, hf1⟩ := bcell hb1; have zs1 := hb1.size; (try simp at zs1))
      go_wp2
      all_goals first
        | (go_roundw
           case rel => exact ⟨k + 1, by omega, by go_num, fun j hj => by
             rcases Nat.lt_succ_iff_lt_or_eq.1 hj with h | rfl
             · exact H1.out j h
             · rename_i h; simpa using h, by (repeat first | with_reducible assumption | with_reducible exact Below.refl _ _ | refine below_drewN ?_ _ | refine Below.drew ?_ | refine Below.alloc ?_ (by first | omega | (with_reducible exact Below.size (by assumption)) | (simp; done) | (simp; omega)) _ | refine Below.setCell ?_ (by first | omega | (with_reducible exact Below.size (by assumption)) | (simp; done) | (simp; omega)) _ | refine below_step (by assumption) (by first | omega | (with_reducible exact Below.size (by assumption)) | (simp; done) | (simp; omega)) ?_)⟩
           case measure => simp [intOf]; omega)
        | (go_ret
           rename_i h
           exact ⟨ret_int (idxN_some hlt (by simpa using h) H1.out).symm, by (repeat first | with_reducible assumption | with_reducible exact Below.refl _ _ | refine below_drewN ?_ _ | refine Below.drew ?_ | refine Below.alloc ?_ (by first | omega | (with_reducible exact Below.size (by assumption)) | (simp; done) | (simp; omega)) _ | refine Below.setCell ?_ (by first | omega | (with_reducible exact Below.size (by assumption)) | (simp; done) | (simp; omega)) _ | refine below_step (by assumption) (by first | omega | (with_reducible exact Below.size (by assumption)) | (simp; done) | (simp; omega)) ?_)⟩)
    · obtain rfl : n = k := by omega
      go_wp2
      go_ret
      exact ⟨ret_int (idxN_none H1.out).symm, by (repeat first | with_reducible assumption | with_reducible exact Below.refl _ _ | refine below_drewN ?_ _ | refine Below.drew ?_ | refine Below.alloc ?_ (by first | omega | (with_reducible exact Below.size (by assumption)) | (simp; done) | (simp; omega)) _ | refine Below.setCell ?_ (by first | omega | (with_reducible exact Below.size (by assumption)) | (simp; done) | (simp; omega)) _ | refine below_step (by assumption) (by first | omega | (with_reducible exact Below.size (by assumption)) | (simp; done) | (simp; omega)) ?_)⟩

set_option maxHeartbeats 400000 in
theorem containsFuncLn_c_q11 (A : Option Addr) (n c g : Nat) (fst cap : Array Value) (xs : List Ln) (p : Nat → Bool) (w : World) (hn : n ≤ 40) (HX : LnsAt w A n xs)
    (HE : ∀ args w, (callFunc g args).run Try.prog w = .ok (.enter g args) w)
    (HF : ∀ k, k < n → ∀ w', Below w.heap.size w w' → Calls Try.prog g (fst.push (.agg #[.int .i64 (lnAt xs k).fr, .int .i64 (lnAt xs k).to, .int .i64 (lnAt xs k).w.lo, .int .i64 (lnAt xs k).w.hi, .int .i64 (lnAt xs k).s.lo, .int .i64 (lnAt xs k).s.hi]) ++ cap) w' fun e w'' => e = .returned (.bool (p k)) ∧ Below w'.heap.size w' w'') :
    Calls Try.prog 62 #[.slice A n c, .func (.func g) fst cap] w fun e w' => e = .returned (.bool (anyN n p)) ∧ Below w.heap.size w w' := by
  have HC := Lib.hid (indexFuncLn_c_q11 A n c g fst cap xs p w hn HX HE HF)
  clear HF HX
  go_enter Try.func62, Try.ntmps62
  go_wp2_with fail
  refine HC.out.mono ?_
  (rintro e w1 ⟨rfl, hb1⟩; obtain ⟨hc1, hf1⟩ := bcell hb1; have zs1 := hb1.size; (try simp at zs1))
  go_wp2
  go_ret
  exact ⟨ret_bool idxN_ge, by (repeat first | with_reducible assumption | with_reducible exact Below.refl _ _ | refine below_drewN ?_ _ | refine Below.drew ?_ | refine Below.alloc ?_ (by first | omega | (with_reducible exact Below.size (by assumption)) | (simp; done) | (simp; omega)) _ | refine Below.setCell ?_ (by first | omega | (with_reducible exact Below.size (by assumption)) | (simp; done) | (simp; omega)) _ | refine below_step (by assumption) (by first | omega | (with_reducible exact Below.size (by assumption)) | (simp; done) | (simp; omega)) ?_)⟩

set_option maxHeartbeats 400000 in
theorem check1_c_q11 (Ap Al : Option Addr) (np cp nl cl : Nat) (wrg i : Int) (b : Nat) (w : World) (h : np ≤ 40)
    (q : ∀ i, w.cell? ⟨b, i, none⟩ = #[Value.slice Ap np cp, .slice Al nl cl, .int .i64 wrg][i]?) :
    Calls Try.prog 57 #[.int .i64 i, .pointer (some ⟨b, 0, none⟩)] w fun e w' => e = .returned (.bool (isEnd i np)) ∧ Below w.heap.size w w' := by
  cases e1 : (i == -1)
  all_goals
    have e2 : (i != -1) = !(i == -1) := rfl
    rw [e1] at e2
    go_enter Try.func57, Try.ntmps57
    go_wp2_with (go_at_call 38; refine (isPlace_c _ _ _ _ _ _ _ _ _ h).mono ?_; (rintro e w1 ⟨rfl, hb1⟩; obtain ⟨hc1, hf1⟩ := bcell hb1; have zs1 := hb1.size; (try simp at zs1)))
    go_ret
    exact ⟨ret_bool (by simp [isEnd, e2]), by (repeat first | with_reducible assumption | with_reducible exact Below.refl _ _ | refine below_drewN ?_ _ | refine Below.drew ?_ | refine Below.alloc ?_ (by first | omega | (with_reducible exact Below.size (by assumption)) | (simp; done) | (simp; omega)) _ | refine Below.setCell ?_ (by first | omega | (with_reducible exact Below.size (by assumption)) | (simp; done) | (simp; omega)) _ | refine below_step (by assumption) (by first | omega | (with_reducible exact Below.size (by assumption)) | (simp; done) | (simp; omega)) ?_)⟩

set_option maxHeartbeats 400000 in
theorem check2_c (p : Sp) (w : World) :
    Calls Try.prog 58 #[.agg #[.int .i64 p.lo, .int .i64 p.hi]] w fun e w' => e = .returned (.bool (!ckSp p)) ∧ Below w.heap.size w w' := by
  cases e1 : wi_q11 p.lo (-999) p.hi
  all_goals
    go_enter Try.func58, Try.ntmps58
    go_wp2_with (go_at_call 59; refine (within_c_q11 _ _ _ _).mono ?_; rintro e w' ⟨rfl, rfl⟩)
    go_ret
    exact ⟨ret_bool (by simp [ckSp, e1]), by (repeat first | with_reducible assumption | with_reducible exact Below.refl _ _ | refine below_drewN ?_ _ | refine Below.drew ?_ | refine Below.alloc ?_ (by first | omega | (with_reducible exact Below.size (by assumption)) | (simp; done) | (simp; omega)) _ | refine Below.setCell ?_ (by first | omega | (with_reducible exact Below.size (by assumption)) | (simp; done) | (simp; omega)) _ | refine below_step (by assumption) (by first | omega | (with_reducible exact Below.size (by assumption)) | (simp; done) | (simp; omega)) ?_)⟩

set_option maxHeartbeats 400000 in
theorem check3_c (Ap Al : Option Addr) (np cp nl cl : Nat) (wrg : Int) (l : Ln) (b b3 : Nat) (w : World) (h : np ≤ 40) (hlb : b < w.heap.size) (hlb3 : b3 < w.heap.size)
    (q : ∀ i, w.cell? ⟨b, i, none⟩ = #[Value.slice Ap np cp, .slice Al nl cl, .int .i64 wrg][i]?)
    (q3 : w.cell? ⟨b3, 0, none⟩ = some (.func (.func 57) #[] #[.pointer (some ⟨b, 0, none⟩)])) :
    Calls Try.prog 60 #[.agg #[.int .i64 l.fr, .int .i64 l.to, .int .i64 l.w.lo, .int .i64 l.w.hi, .int .i64 l.s.lo, .int .i64 l.s.hi], .pointer (some ⟨b3, 0, none⟩)] w
      fun e w' => e = .returned (.bool (!ckLn np l)) ∧ Below w.heap.size w w' := by
  have hsz : b < w.heap.size + 1 := by omega
  have hsz3 : b3 < w.heap.size + 1 := by omega
  cases e1 : (l.fr == l.to)
  all_goals
    have e2 : (l.fr != l.to) = !(l.fr == l.to) := rfl
    rw [e1] at e2
    go_enter Try.func60, Try.ntmps60
    go_wp2_with fail
    refine (check1_c_q11 Ap Al np cp nl cl wrg _ b _ h (fun i => ?_)).mono ?_
    · rw [World.cell?_alloc_lt _ _ _ hlb]; exact q i
    (rintro e w1 ⟨rfl, hb1⟩; obtain ⟨hc1, hf1⟩ := bcell hb1; have zs1 := hb1.size; (try simp at zs1); have n1_0 : w.heap.size < w1.heap.size := (by omega))
    have d1 : b < w1.heap.size := by omega
    have d3 : b3 < w1.heap.size := by omega
    go_wp2_with fail
    refine (check1_c_q11 Ap Al np cp nl cl wrg _ b _ h (fun i => ?_)).mono ?_
    · rw [hc1 _ _ (by simp; omega), World.cell?_alloc_lt _ _ _ hlb]; exact q i
    (rintro e w2 ⟨rfl, hb2⟩; obtain ⟨hc2, hf2⟩ := bcell hb2; have zs2 := hb2.size; (try simp at zs2); have n2_0 : w.heap.size < w2.heap.size := (by omega))
    go_wp2_with (go_at_call 59; refine (within_c_q11 _ _ _ _).mono ?_; rintro e w' ⟨rfl, rfl⟩)
    all_goals
      go_ret
      exact ⟨ret_bool (by simp [ckLn, *] <;> exact dec_lt _ _), by (repeat first | with_reducible assumption | with_reducible exact Below.refl _ _ | refine below_drewN ?_ _ | refine Below.drew ?_ | refine Below.alloc ?_ (by first | omega | (with_reducible exact Below.size (by assumption)) | (simp; done) | (simp; omega)) _ | refine Below.setCell ?_ (by first | omega | (with_reducible exact Below.size (by assumption)) | (simp; done) | (simp; omega)) _ | refine below_step (by assumption) (by first | omega | (with_reducible exact Below.size (by assumption)) | (simp; done) | (simp; omega)) ?_)⟩

theorem ckBk_o {np nl : Nat} {pl : List Sp} {ls : List Ln} {wr : Int}
    (h : (5 : Int) < np ∨ allN np (fun k => ckSp (spAt pl k)) = false ∨ (8 : Int) < nl ∨ allN nl (fun k => ckLn np (lnAt ls k)) = false ∨ wi_q11 wr 0 8 = false) : erB (ckBk np nl pl ls wr) = 110 := by
  rcases h with h | h | h | h | h <;> simp [erB, ckBk, h]

set_option maxHeartbeats 400000 in
theorem check_c_q11 (Ap Al : Option Addr) (np cp nl cl : Nat) (wrg : Int) (pl : List Sp) (ls : List Ln) (w : World) (hp : np ≤ 40) (hl : nl ≤ 40) (HP : SpsAt w Ap np pl) (HL : LnsAt w Al nl ls) :
    Calls Try.prog 35 #[.agg #[.slice Ap np cp, .slice Al nl cl, .int .i64 wrg]] w
      fun e w' => e = .returned (.int .i64 (erB (ckBk np nl pl ls wrg))) ∧ Below w.heap.size w w' := by
  have HPI := Lib.hid HP
  have HLI := Lib.hid HL
  clear HP HL
  have en60 : ∀ args w, (callFunc 58 args).run Try.prog w = .ok (.enter 58 args) w := enters_of Try.func58 (by kernel_rfl) rfl
  have en62 : ∀ args w, (callFunc 60 args).run Try.prog w = .ok (.enter 60 args) w := enters_of Try.func60 (by kernel_rfl) rfl
  by_cases g1 : (5 : Int) < np
  · go_enter Try.func35, Try.ntmps35
    go_wp2
    go_ret
    exact ⟨ret_int (ckBk_o (.inl g1)).symm, by (repeat first | with_reducible assumption | with_reducible exact Below.refl _ _ | refine below_drewN ?_ _ | refine Below.drew ?_ | refine Below.alloc ?_ (by first | omega | (with_reducible exact Below.size (by assumption)) | (simp; done) | (simp; omega)) _ | refine Below.setCell ?_ (by first | omega | (with_reducible exact Below.size (by assumption)) | (simp; done) | (simp; omega)) _ | refine below_step (by assumption) (by first | omega | (with_reducible exact Below.size (by assumption)) | (simp; done) | (simp; omega)) ?_)⟩
  have g1' : (np : Int) ≤ 5 := by omega
  go_enter Try.func35, Try.ntmps35
  go_wp2_with fail
  refine (containsFuncSp_c_q11 Ap np cp _ #[] #[] pl (fun k => !ckSp (spAt pl k)) _ hp (HPI.out.later (by (repeat first | with_reducible assumption | with_reducible exact Below.refl _ _ | refine below_drewN ?_ _ | refine Below.drew ?_ | refine Below.alloc ?_ (by first | omega | (with_reducible exact Below.size (by assumption)) | (simp; done) | (simp; omega)) _ | refine Below.setCell ?_ (by first | omega | (with_reducible exact Below.size (by assumption)) | (simp; done) | (simp; omega)) _ | refine below_step (by assumption) (by first | omega | (with_reducible exact Below.size (by assumption)) | (simp; done) | (simp; omega)) ?_))) en60 (fun k hk w' hb => ?_)).mono ?_
  · simpa using check2_c (spAt pl k) w'
  (rintro e w1 ⟨rfl, hb1⟩; obtain ⟨hc1, hf1⟩ := bcell hb1; have zs1 := hb1.size; (try simp at zs1); have n1_0 : w.heap.size < w1.heap.size := (by omega); have n1_1 : w.heap.size + 1 < w1.heap.size := (by omega))
  by_cases g2 : (8 : Int) < nl
  · go_wp2
    all_goals
      go_ret
      exact ⟨ret_int (ckBk_o (.inr (.inr (.inl g2)))).symm, by (repeat first | with_reducible assumption | with_reducible exact Below.refl _ _ | refine below_drewN ?_ _ | refine Below.drew ?_ | refine Below.alloc ?_ (by first | omega | (with_reducible exact Below.size (by assumption)) | (simp; done) | (simp; omega)) _ | refine Below.setCell ?_ (by first | omega | (with_reducible exact Below.size (by assumption)) | (simp; done) | (simp; omega)) _ | refine below_step (by assumption) (by first | omega | (with_reducible exact Below.size (by assumption)) | (simp; done) | (simp; omega)) ?_)⟩
  have g2' : (nl : Int) ≤ 8 := by omega
  go_wp2_with fail
  · go_ret
    have h : (anyN np fun k => !ckSp (spAt pl k)) = true := by assumption
    exact ⟨ret_int (ckBk_o (.inr (.inl (by simpa [anyN_not] using h)))).symm, by (repeat first | with_reducible assumption | with_reducible exact Below.refl _ _ | refine below_drewN ?_ _ | refine Below.drew ?_ | refine Below.alloc ?_ (by first | omega | (with_reducible exact Below.size (by assumption)) | (simp; done) | (simp; omega)) _ | refine Below.setCell ?_ (by first | omega | (with_reducible exact Below.size (by assumption)) | (simp; done) | (simp; omega)) _ | refine below_step (by assumption) (by first | omega | (with_reducible exact Below.size (by assumption)) | (simp; done) | (simp; omega)) ?_)⟩
  · have h : ¬(anyN np fun k => !ckSp (spAt pl k)) = true := by assumption
    have hp' : allN np (fun k => ckSp (spAt pl k)) = true := by simpa [anyN_not] using h
    have Hp := Lib.hid hp'
    clear hp'
    clear h
    refine (containsFuncLn_c_q11 Al nl cl _ #[] #[.pointer (some ⟨w.heap.size + 1, 0, none⟩)] ls (fun k => !ckLn np (lnAt ls k)) _ hl (HLI.out.later (by (repeat first | with_reducible assumption | with_reducible exact Below.refl _ _ | refine below_drewN ?_ _ | refine Below.drew ?_ | refine Below.alloc ?_ (by first | omega | (with_reducible exact Below.size (by assumption)) | (simp; done) | (simp; omega)) _ | refine Below.setCell ?_ (by first | omega | (with_reducible exact Below.size (by assumption)) | (simp; done) | (simp; omega)) _ | refine below_step (by assumption) (by first | omega | (with_reducible exact Below.size (by assumption)) | (simp; done) | (simp; omega)) ?_))) en62 (fun k hk w' hb => ?_)).mono ?_
    · have zb := hb.size
      have hb' := (bcell hb).1
      have h3 := check3_c Ap Al np cp nl cl wrg (lnAt ls k) w.heap.size (w.heap.size + 1) w' hp (Nat.lt_of_lt_of_le n1_0 zb) (Nat.lt_of_lt_of_le n1_1 zb)
        (fun i => by rw [hb' _ _ n1_0, hc1 _ _ (by first | omega | (simp; done) | (simp; omega))]; exact (al2_0 rfl).2.1 i) (by rw [hb' _ _ n1_1, hc1 _ _ (by first | omega | (simp; done) | (simp; omega))]; exact (al2_1 rfl).2.1 0)
      simpa using h3
    (rintro e w2 ⟨rfl, hb2⟩; obtain ⟨hc2, hf2⟩ := bcell hb2; have zs2 := hb2.size; (try simp at zs2); have n2_0 : w.heap.size < w2.heap.size := (by omega); have n2_1 : w.heap.size + 1 < w2.heap.size := (by omega))
    go_wp2_with (go_at_call 59; refine (within_c_q11 _ _ _ _).mono ?_; rintro e w' ⟨rfl, rfl⟩)
    · go_ret
      have h : (anyN nl fun k => !ckLn np (lnAt ls k)) = true := by assumption
      exact ⟨ret_int (ckBk_o (.inr (.inr (.inr (.inl (by simpa [anyN_not] using h)))))).symm, by (repeat first | with_reducible assumption | with_reducible exact Below.refl _ _ | refine below_drewN ?_ _ | refine Below.drew ?_ | refine Below.alloc ?_ (by first | omega | (with_reducible exact Below.size (by assumption)) | (simp; done) | (simp; omega)) _ | refine Below.setCell ?_ (by first | omega | (with_reducible exact Below.size (by assumption)) | (simp; done) | (simp; omega)) _ | refine below_step (by assumption) (by first | omega | (with_reducible exact Below.size (by assumption)) | (simp; done) | (simp; omega)) ?_)⟩
    · have h : 8 < (nl : Int) ∨ (!wi_q11 wrg 0 8) = true := by assumption
      have h' : wi_q11 wrg 0 8 = false := by rcases h with h | h; exact absurd h (by omega); simpa using h
      go_ret
      exact ⟨ret_int (ckBk_o (.inr (.inr (.inr (.inr h'))))).symm, by (repeat first | with_reducible assumption | with_reducible exact Below.refl _ _ | refine below_drewN ?_ _ | refine Below.drew ?_ | refine Below.alloc ?_ (by first | omega | (with_reducible exact Below.size (by assumption)) | (simp; done) | (simp; omega)) _ | refine Below.setCell ?_ (by first | omega | (with_reducible exact Below.size (by assumption)) | (simp; done) | (simp; omega)) _ | refine below_step (by assumption) (by first | omega | (with_reducible exact Below.size (by assumption)) | (simp; done) | (simp; omega)) ?_)⟩
    · have h : ¬(anyN nl fun k => !ckLn np (lnAt ls k)) = true := by assumption
      have h5 : allN nl (fun k => ckLn np (lnAt ls k)) = true := by simpa [anyN_not] using h
      have h6 : (nl : Int) ≤ 8 ∧ (!wi_q11 wrg 0 8) = false := by assumption
      go_ret
      exact ⟨ret_int (ckBk_yes g1' g2' (by simpa using h6.2) Hp.out h5).symm, by (repeat first | with_reducible assumption | with_reducible exact Below.refl _ _ | refine below_drewN ?_ _ | refine Below.drew ?_ | refine Below.alloc ?_ (by first | omega | (with_reducible exact Below.size (by assumption)) | (simp; done) | (simp; omega)) _ | refine Below.setCell ?_ (by first | omega | (with_reducible exact Below.size (by assumption)) | (simp; done) | (simp; omega)) _ | refine below_step (by assumption) (by first | omega | (with_reducible exact Below.size (by assumption)) | (simp; done) | (simp; omega)) ?_)⟩

end Go.Proofs.Ytdhlnlmhdacblaa

namespace Go.Proofs.Ytdhlnlmhdacblaa
open Go.RowKit
open Go.Sort (grow)
set_option linter.unusedVariables false
set_option linter.unusedSimpArgs false

/-- the least of the first n at which p, or n -/
def leastN (n : Nat) (p : Nat → Bool) : Nat := ((List.range n).find? p).getD n
theorem leastN_eq {n : Nat} {p : Nat → Bool} {i : Nat} (hi : i ≤ n) (h0 : ∀ k, k < i → p k = false) (h1 : ∀ k, i ≤ k → k < n → p k = true) : leastN n p = i := by
  by_cases h : i < n
  · have := idxN_some h (h1 i (Nat.le_refl _) h) h0
    unfold idxN at this
    unfold leastN
    cases e : (List.range n).find? p with
    | none => rw [e] at this; simp at this
    | some k => rw [e] at this; simp at this; simp; omega
  · obtain rfl : i = n := by omega
    have : (List.range i).find? p = none := by simpa using h0
    simp [leastN, this]

theorem leastN_le (n : Nat) (p : Nat → Bool) : leastN n p ≤ n := by
  unfold leastN
  cases e : (List.range n).find? p with
  | none => simp
  | some k => have := List.mem_of_find?_eq_some e; simp at this; simp; omega

set_option maxHeartbeats 400000 in
theorem search_c (n g : Nat) (fst cap : Array Value) (p : Nat → Bool) (w : World) (hn : n ≤ 100000) (hm : ∀ a b, a ≤ b → b < n → p a = true → p b = true)
    (HE : ∀ args w, (callFunc g args).run Try.prog w = .ok (.enter g args) w)
    (HF : ∀ k, k < n → ∀ w', Below w.heap.size w w' → Calls Try.prog g (fst.push (.int .i64 k) ++ cap) w' fun e w'' => e = .returned (.bool (p k)) ∧ Below w'.heap.size w' w'') :
    Calls Try.prog 82 #[.int .i64 n, .func (.func g) fst cap] w fun e w' => e = .returned (.int .i64 (leastN n p)) ∧ Below w.heap.size w w' := by
  have HFI := Lib.hid HF
  have HM := Lib.hid hm
  clear HF hm
  go_enter Try.func82, Try.ntmps82
  go_wp2
  go_loopw [5, 6] (fun i j (wr : World) => ∃ a b : Nat, a ≤ b ∧ b ≤ n ∧ i = .int .i64 a ∧ j = .int .i64 b ∧ Hid ((∀ k, k < a → p k = false) ∧ (∀ k, b ≤ k → k < n → p k = true)) ∧ Below w.heap.size w wr) (fun i j _ => (intOf j).toNat - (intOf i).toNat)
  case atStart => exact ⟨0, n, by omega, by omega, rfl, rfl, ⟨fun j hj => absurd hj (by omega), fun j h1 h2 => absurd h2 (by omega)⟩, Below.refl _ _⟩
  case round =>
    obtain ⟨a, b, hab, hbn, rfl, rfl, H1, hb⟩ := hrel
    have zb := hb.size
    by_cases hlt : a < b
    · go_wp2_with fail
      have e : ((a : Int) + b) / 2 = (((a + b) / 2 : Nat) : Int) := by omega
      rw [e]
      obtain ⟨h, hh⟩ : ∃ h, (a + b) / 2 = h := ⟨_, rfl⟩
      have ha : a ≤ h := by omega
      have hb' : h < b := by omega
      rw [hh]
      clear e hh
      refine (HFI.out h (by omega) _ hb).mono ?_
      (rintro e w1 ⟨rfl, hb1⟩; obtain ⟨hc1, hf1⟩ := bcell hb1; have zs1 := hb1.size; (try simp at zs1))
      go_wp2
      · go_roundw
        case rel =>
          have hp : (!p h) = true := by assumption
          exact ⟨h + 1, b, by omega, hbn, by go_num, rfl, ⟨(fun k hk => by
            cases ek : p k with
            | false => rfl
            | true => (rw [HM.out k h (by omega) (by omega) ek] at hp; cases hp)), H1.out.2⟩, by (repeat first | with_reducible assumption | with_reducible exact Below.refl _ _ | refine below_drewN ?_ _ | refine Below.drew ?_ | refine Below.alloc ?_ (by first | omega | (with_reducible exact Below.size (by assumption)) | (simp; done) | (simp; omega)) _ | refine Below.setCell ?_ (by first | omega | (with_reducible exact Below.size (by assumption)) | (simp; done) | (simp; omega)) _ | refine below_step (by assumption) (by first | omega | (with_reducible exact Below.size (by assumption)) | (simp; done) | (simp; omega)) ?_)⟩
        case measure => simp [intOf]; omega
      · go_roundw
        case rel =>
          have hp : (!p h) = false := by assumption
          exact ⟨a, h, ha, by omega, rfl, rfl, ⟨H1.out.1, fun k h1 h2 => HM.out h k h1 h2 (by simpa using hp)⟩, by (repeat first | with_reducible assumption | with_reducible exact Below.refl _ _ | refine below_drewN ?_ _ | refine Below.drew ?_ | refine Below.alloc ?_ (by first | omega | (with_reducible exact Below.size (by assumption)) | (simp; done) | (simp; omega)) _ | refine Below.setCell ?_ (by first | omega | (with_reducible exact Below.size (by assumption)) | (simp; done) | (simp; omega)) _ | refine below_step (by assumption) (by first | omega | (with_reducible exact Below.size (by assumption)) | (simp; done) | (simp; omega)) ?_)⟩
        case measure => simp [intOf]; omega
    · obtain rfl : a = b := by omega
      go_wp2
      go_ret
      exact ⟨ret_int (by rw [leastN_eq hbn H1.out.1 H1.out.2]), hb⟩

end Go.Proofs.Ytdhlnlmhdacblaa
