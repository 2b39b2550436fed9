/- Good and Shackles of repairs (layer 7). -/
import Derived.Test.YthjjakhmbgnnnaaGv7
namespace Go.Proofs.Ythjjakhmbgnnnaa
open Go.RowKit
open Go.Sort (grow)
set_option linter.unusedVariables false

/-- of a repair: its error; that it is good; its shackles -/
def gvE (n m : Nat) (ls : List Sp) (q : Cb) (l : List Int) : Int := (gvR n m ls q l).2
def gvG (n m : Nat) (ls : List Sp) (q : Cb) (l : List Int) : Bool := gvE n m ls q l == 0 && goodB q ls n (gvR n m ls q l).1
def gvS (n m : Nat) (ls : List Sp) (q : Cb) (l : List Int) : Int := bif gvE n m ls q l == 0 then shk (gvR n m ls q l).1 n else 0
theorem gvR_cases (n m : Nat) (ls : List Sp) (q : Cb) (l : List Int) : (∃ z : Int, z ≠ 0 ∧ gvR n m ls q l = (0, z)) ∨ (∃ x : Nat, gvR n m ls q l = (x, 0) ∧ x < 4096 ∧ n ≤ 12 ∧ ckC n ls q = true ∧ isR n m l = true ∧ x = ofK l m) := by
  cases h : ckC n ls q
  · exact .inl ⟨70, by omega, gv_ck h⟩
  · cases h2 : isR n m l
    · exact .inl ⟨1, by omega, gv_bad h h2⟩
    · have hn := ck_len h
      have a := ofK_lt (n := n) (Nat.le_refl m) (allN_iff.1 h2)
      have b : 2 ^ n ≤ 2 ^ 12 := Nat.pow_le_pow_right (by omega) hn
      exact .inr ⟨ofK l m, gv_ok h h2, by omega, hn, rfl, rfl, rfl⟩
set_option maxRecDepth 100000 in
set_option maxHeartbeats 1600000 in
theorem Good_c (A B : Option Addr) (n c m d : Nat) (q : Cb) (ls : List Sp) (l : List Int) (w : World) (hn : n ≤ 40) (hm : m ≤ 40) (hq : CbOk q) (HL : SpsAt w A n ls) (HX : IntsAt w B m l) :
    Calls Try.prog 28 #[.agg #[.slice A n c, .int .i64 q.need, .int .i64 q.gap, .int .i64 q.doubt, .int .i64 q.joins, .int .i64 q.least], .slice B m d] w
      fun e w' => e = .returned (.tuple #[.bool (gvG n m ls q l), .int .i64 (gvE n m ls q l)]) ∧ Below w.heap.size w w' := by
  have hgv : ∀ W, Below w.heap.size w W → Calls Try.prog 54 #[.agg #[.slice A n c, .int .i64 q.need, .int .i64 q.gap, .int .i64 q.doubt, .int .i64 q.joins, .int .i64 q.least], .slice B m d] W
      fun e w' => e = .returned (.tuple #[.int .u64 ((gvR n m ls q l).1 : Nat), .int .i64 (gvR n m ls q l).2]) ∧ Below W.heap.size W w' := fun W hW =>
    given_c A B n c m d q ls l W hn hm hq (HL.later hW) (HX.later hW)
  rcases gvR_cases n m ls q l with ⟨z, hz, e⟩ | ⟨x, e, hx, hn12, -, -, -⟩
  · have e1 : gvE n m ls q l = z := by rw [gvE, e]
    have hzB : (z == 0) = false := by simpa using hz
    have e2 : gvG n m ls q l = false := by rw [gvG, e1, hzB]; rfl
    rw [e] at hgv
    rw [e1, e2]
    replace hgv := Lib.hid hgv
    clear e e1 e2 HL HX
    go_enter Try.func28, Try.ntmps28
    go_wp2_with (go_at_call 54; refine (hgv.out _ (by (repeat first | with_reducible assumption | with_reducible exact Below.refl _ _ | (with_reducible refine Below.alloc ?_ ?side _; case side => (first | omega | (with_reducible exact Below.size (by assumption)) | (simp; done) | (simp; omega))) | (with_reducible refine Below.setCell ?_ ?side _; case side => (first | omega | (with_reducible exact Below.size (by assumption)) | (simp; done) | (simp; omega))) | with_reducible refine Below.drew ?_ | with_reducible refine below_drewN ?_ _ | (with_reducible refine below_step (by assumption) ?side ?_; case side => (first | omega | (with_reducible exact Below.size (by assumption)) | (simp; done) | (simp; omega)))))).mono ?_; (rintro e w1 ⟨rfl, hb1⟩; obtain ⟨hc1, hf1⟩ := bcell hb1; have zs1 := hb1.size; (try simp at zs1); have n1_0 : w.heap.size < w1.heap.size := (by omega)))
    exact bodyPost_ret (v := .tuple #[.bool false, .int .i64 z]) (by simp [results, Try.results28, go_sem]) rfl ⟨rfl, by (repeat first | with_reducible assumption | with_reducible exact Below.refl _ _ | (with_reducible refine Below.alloc ?_ ?side _; case side => (first | omega | (with_reducible exact Below.size (by assumption)) | (simp; done) | (simp; omega))) | (with_reducible refine Below.setCell ?_ ?side _; case side => (first | omega | (with_reducible exact Below.size (by assumption)) | (simp; done) | (simp; omega))) | with_reducible refine Below.drew ?_ | with_reducible refine below_drewN ?_ _ | (with_reducible refine below_step (by assumption) ?side ?_; case side => (first | omega | (with_reducible exact Below.size (by assumption)) | (simp; done) | (simp; omega))))⟩
  · have e1 : gvE n m ls q l = 0 := by rw [gvE, e]
    have e2 : gvG n m ls q l = goodB q ls n x := by rw [gvG, e1, e]; rfl
    have hig : ∀ W, Below w.heap.size w W → Calls Try.prog 55 #[.agg #[.slice A n c, .int .i64 q.need, .int .i64 q.gap, .int .i64 q.doubt, .int .i64 q.joins, .int .i64 q.least], .int .u64 x] W fun e w' => e = .returned (.bool (goodB q ls n x)) ∧ Below W.heap.size W w' := fun W hW =>
      isGood_c A n c x q ls W (by omega) (by omega) (HL.later hW)
    obtain ⟨g, hg⟩ : ∃ g, goodB q ls n x = g := ⟨_, rfl⟩
    rw [hg] at hig e2
    rw [e] at hgv
    rw [e1, e2]
    replace hgv := Lib.hid hgv
    replace hig := Lib.hid hig
    clear e e1 e2 HL HX hg
    go_enter Try.func28, Try.ntmps28
    go_wp2_with (go_at_call 54; refine (hgv.out _ (by (repeat first | with_reducible assumption | with_reducible exact Below.refl _ _ | (with_reducible refine Below.alloc ?_ ?side _; case side => (first | omega | (with_reducible exact Below.size (by assumption)) | (simp; done) | (simp; omega))) | (with_reducible refine Below.setCell ?_ ?side _; case side => (first | omega | (with_reducible exact Below.size (by assumption)) | (simp; done) | (simp; omega))) | with_reducible refine Below.drew ?_ | with_reducible refine below_drewN ?_ _ | (with_reducible refine below_step (by assumption) ?side ?_; case side => (first | omega | (with_reducible exact Below.size (by assumption)) | (simp; done) | (simp; omega)))))).mono ?_; (rintro e w1 ⟨rfl, hb1⟩; obtain ⟨hc1, hf1⟩ := bcell hb1; have zs1 := hb1.size; (try simp at zs1); have n1_0 : w.heap.size < w1.heap.size := (by omega)))
    have d0 := fun j => (hc1 w.heap.size j (by first | omega | (simp; done) | (simp; omega))).trans ((al1_0 rfl).2.1 j)
    have B1 : Below w.heap.size w w1 := by (repeat first | with_reducible assumption | with_reducible exact Below.refl _ _ | (with_reducible refine Below.alloc ?_ ?side _; case side => (first | omega | (with_reducible exact Below.size (by assumption)) | (simp; done) | (simp; omega))) | (with_reducible refine Below.setCell ?_ ?side _; case side => (first | omega | (with_reducible exact Below.size (by assumption)) | (simp; done) | (simp; omega))) | with_reducible refine Below.drew ?_ | with_reducible refine below_drewN ?_ _ | (with_reducible refine below_step (by assumption) ?side ?_; case side => (first | omega | (with_reducible exact Below.size (by assumption)) | (simp; done) | (simp; omega))))
    clear hc1 hf1
    go_wp2_with (go_at_call 55; refine (hig.out _ (by (repeat first | with_reducible assumption | with_reducible exact Below.refl _ _ | (with_reducible refine Below.alloc ?_ ?side _; case side => (first | omega | (with_reducible exact Below.size (by assumption)) | (simp; done) | (simp; omega))) | (with_reducible refine Below.setCell ?_ ?side _; case side => (first | omega | (with_reducible exact Below.size (by assumption)) | (simp; done) | (simp; omega))) | with_reducible refine Below.drew ?_ | with_reducible refine below_drewN ?_ _ | (with_reducible refine below_step (by assumption) ?side ?_; case side => (first | omega | (with_reducible exact Below.size (by assumption)) | (simp; done) | (simp; omega)))))).mono ?_; (rintro e w2 ⟨rfl, hb2⟩; obtain ⟨hc2, hf2⟩ := bcell hb2; have zs2 := hb2.size; (try simp at zs2); have n2_0 : w.heap.size < w2.heap.size := (by omega)))
    exact bodyPost_ret (v := .tuple #[.bool g, .int .i64 0]) (by simp [results, Try.results28, go_sem]) rfl ⟨rfl, by (repeat first | with_reducible assumption | with_reducible exact Below.refl _ _ | (with_reducible refine Below.alloc ?_ ?side _; case side => (first | omega | (with_reducible exact Below.size (by assumption)) | (simp; done) | (simp; omega))) | (with_reducible refine Below.setCell ?_ ?side _; case side => (first | omega | (with_reducible exact Below.size (by assumption)) | (simp; done) | (simp; omega))) | with_reducible refine Below.drew ?_ | with_reducible refine below_drewN ?_ _ | (with_reducible refine below_step (by assumption) ?side ?_; case side => (first | omega | (with_reducible exact Below.size (by assumption)) | (simp; done) | (simp; omega))))⟩
set_option maxRecDepth 100000 in
set_option maxHeartbeats 1600000 in
theorem Shackles_c (A B : Option Addr) (n c m d : Nat) (q : Cb) (ls : List Sp) (l : List Int) (w : World) (hn : n ≤ 40) (hm : m ≤ 40) (hq : CbOk q) (HL : SpsAt w A n ls) (HX : IntsAt w B m l) :
    Calls Try.prog 33 #[.agg #[.slice A n c, .int .i64 q.need, .int .i64 q.gap, .int .i64 q.doubt, .int .i64 q.joins, .int .i64 q.least], .slice B m d] w
      fun e w' => e = .returned (.tuple #[.int .i64 (gvS n m ls q l), .int .i64 (gvE n m ls q l)]) ∧ Below w.heap.size w w' := by
  have hgv : ∀ W, Below w.heap.size w W → Calls Try.prog 54 #[.agg #[.slice A n c, .int .i64 q.need, .int .i64 q.gap, .int .i64 q.doubt, .int .i64 q.joins, .int .i64 q.least], .slice B m d] W
      fun e w' => e = .returned (.tuple #[.int .u64 ((gvR n m ls q l).1 : Nat), .int .i64 (gvR n m ls q l).2]) ∧ Below W.heap.size W w' := fun W hW =>
    given_c A B n c m d q ls l W hn hm hq (HL.later hW) (HX.later hW)
  rcases gvR_cases n m ls q l with ⟨z, hz, e⟩ | ⟨x, e, hx, hn12, -, -, -⟩
  · have e1 : gvE n m ls q l = z := by rw [gvE, e]
    have hzB : (z == 0) = false := by simpa using hz
    have hzC : (z != 0) = true := by simpa using hz
    have e2 : gvS n m ls q l = 0 := by rw [gvS, e1, hzB]; rfl
    rw [e] at hgv
    rw [e1, e2]
    replace hgv := Lib.hid hgv
    clear e e1 e2 HL HX hzB
    go_enter Try.func33, Try.ntmps33
    go_wp2_with (go_at_call 54; refine (hgv.out _ (by (repeat first | with_reducible assumption | with_reducible exact Below.refl _ _ | (with_reducible refine Below.alloc ?_ ?side _; case side => (first | omega | (with_reducible exact Below.size (by assumption)) | (simp; done) | (simp; omega))) | (with_reducible refine Below.setCell ?_ ?side _; case side => (first | omega | (with_reducible exact Below.size (by assumption)) | (simp; done) | (simp; omega))) | with_reducible refine Below.drew ?_ | with_reducible refine below_drewN ?_ _ | (with_reducible refine below_step (by assumption) ?side ?_; case side => (first | omega | (with_reducible exact Below.size (by assumption)) | (simp; done) | (simp; omega)))))).mono ?_; (rintro e w1 ⟨rfl, hb1⟩; obtain ⟨hc1, hf1⟩ := bcell hb1; have zs1 := hb1.size; (try simp at zs1); have n1_0 : w.heap.size < w1.heap.size := (by omega)))
    exact bodyPost_ret (v := .tuple #[.int .i64 0, .int .i64 z]) (by simp [results, Try.results33, go_sem]) rfl ⟨rfl, by (repeat first | with_reducible assumption | with_reducible exact Below.refl _ _ | (with_reducible refine Below.alloc ?_ ?side _; case side => (first | omega | (with_reducible exact Below.size (by assumption)) | (simp; done) | (simp; omega))) | (with_reducible refine Below.setCell ?_ ?side _; case side => (first | omega | (with_reducible exact Below.size (by assumption)) | (simp; done) | (simp; omega))) | with_reducible refine Below.drew ?_ | with_reducible refine below_drewN ?_ _ | (with_reducible refine below_step (by assumption) ?side ?_; case side => (first | omega | (with_reducible exact Below.size (by assumption)) | (simp; done) | (simp; omega))))⟩
  · have e1 : gvE n m ls q l = 0 := by rw [gvE, e]
    have e2 : gvS n m ls q l = shk x n := by rw [gvS, e1, e]; rfl
    have hsk := fun W => shackles_c x n W (by omega) (by omega)
    obtain ⟨g, hg⟩ : ∃ g, shk x n = g := ⟨_, rfl⟩
    rw [hg] at hsk e2
    rw [e] at hgv
    rw [e1, e2]
    replace hgv := Lib.hid hgv
    replace hsk := Lib.hid hsk
    clear e e1 e2 HL HX hg
    go_enter Try.func33, Try.ntmps33
    go_wp2_with (go_at_call 54; refine (hgv.out _ (by (repeat first | with_reducible assumption | with_reducible exact Below.refl _ _ | (with_reducible refine Below.alloc ?_ ?side _; case side => (first | omega | (with_reducible exact Below.size (by assumption)) | (simp; done) | (simp; omega))) | (with_reducible refine Below.setCell ?_ ?side _; case side => (first | omega | (with_reducible exact Below.size (by assumption)) | (simp; done) | (simp; omega))) | with_reducible refine Below.drew ?_ | with_reducible refine below_drewN ?_ _ | (with_reducible refine below_step (by assumption) ?side ?_; case side => (first | omega | (with_reducible exact Below.size (by assumption)) | (simp; done) | (simp; omega)))))).mono ?_; (rintro e w1 ⟨rfl, hb1⟩; obtain ⟨hc1, hf1⟩ := bcell hb1; have zs1 := hb1.size; (try simp at zs1); have n1_0 : w.heap.size < w1.heap.size := (by omega)))
    have d0 := fun j => (hc1 w.heap.size j (by first | omega | (simp; done) | (simp; omega))).trans ((al1_0 rfl).2.1 j)
    have B1 : Below w.heap.size w w1 := by (repeat first | with_reducible assumption | with_reducible exact Below.refl _ _ | (with_reducible refine Below.alloc ?_ ?side _; case side => (first | omega | (with_reducible exact Below.size (by assumption)) | (simp; done) | (simp; omega))) | (with_reducible refine Below.setCell ?_ ?side _; case side => (first | omega | (with_reducible exact Below.size (by assumption)) | (simp; done) | (simp; omega))) | with_reducible refine Below.drew ?_ | with_reducible refine below_drewN ?_ _ | (with_reducible refine below_step (by assumption) ?side ?_; case side => (first | omega | (with_reducible exact Below.size (by assumption)) | (simp; done) | (simp; omega))))
    clear hc1 hf1
    go_wp2_with (go_at_call 49; refine (hsk.out _).mono ?_; (rintro e w2 ⟨rfl, hb2⟩; obtain ⟨hc2, hf2⟩ := bcell hb2; have zs2 := hb2.size; (try simp at zs2); have n2_0 : w.heap.size < w2.heap.size := (by omega)))
    exact bodyPost_ret (v := .tuple #[.int .i64 g, .int .i64 0]) (by simp [results, Try.results33, go_sem]) rfl ⟨rfl, by (repeat first | with_reducible assumption | with_reducible exact Below.refl _ _ | (with_reducible refine Below.alloc ?_ ?side _; case side => (first | omega | (with_reducible exact Below.size (by assumption)) | (simp; done) | (simp; omega))) | (with_reducible refine Below.setCell ?_ ?side _; case side => (first | omega | (with_reducible exact Below.size (by assumption)) | (simp; done) | (simp; omega))) | with_reducible refine Below.drew ?_ | with_reducible refine below_drewN ?_ _ | (with_reducible refine below_step (by assumption) ?side ?_; case side => (first | omega | (with_reducible exact Below.size (by assumption)) | (simp; done) | (simp; omega))))⟩

end Go.Proofs.Ythjjakhmbgnnnaa
