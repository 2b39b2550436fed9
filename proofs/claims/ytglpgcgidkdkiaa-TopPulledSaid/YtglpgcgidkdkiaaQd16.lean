/- Must and Spared of repairs (layer 7); Spared of repairs (layer 7); Cheapest of repairs (layer 7): its closure; Cheapest of repairs (layer 7); given, Good and Shackles of repairs (layer 7); Good and Shackles of repairs (layer 7); IsRepair and in of the specification (layer 7). -/
import Derived.Test.YtglpgcgidkdkiaaQd15
import Derived.Test.YtglpgcgidkdkiaaQd08
namespace Go.Proofs.Ytglpgcgidkdkiaa
open Go.RowKit
open Go.Sort (grow)
set_option linter.unusedVariables false
set_option linter.unusedSimpArgs false

def andL (y : Nat) (S : List Nat) : Nat := S.foldl (fun a b => a &&& b) y
def orL (S : List Nat) : Nat := S.foldl (fun a b => a ||| b) 0
theorem and_bit (S : List Nat) (y i : Nat) : (andL y S).testBit i = (y.testBit i && S.all fun x => x.testBit i) := by
  unfold andL
  induction S generalizing y with
  | nil => simp
  | cons a S ih => rw [List.foldl_cons, ih, Nat.testBit_and, List.all_cons, Bool.and_assoc]
theorem or_bitA (S : List Nat) (y i : Nat) : (S.foldl (fun a b => a ||| b) y).testBit i = (y.testBit i || S.any fun x => x.testBit i) := by
  induction S generalizing y with
  | nil => simp
  | cons a S ih => rw [List.foldl_cons, ih, Nat.testBit_or, List.any_cons, Bool.or_assoc]
theorem or_bit (S : List Nat) (i : Nat) : (orL S).testBit i = S.any fun x => x.testBit i := by unfold orL; rw [or_bitA]; simp
theorem and_le (S : List Nat) (y : Nat) : andL y S ≤ y := by
  unfold andL
  induction S generalizing y with
  | nil => exact Nat.le_refl _
  | cons a S ih => rw [List.foldl_cons]; exact Nat.le_trans (ih _) Nat.and_le_left
theorem or_lt (S : List Nat) (y k : Nat) (hy : y < 2 ^ k) (h : ∀ x ∈ S, x < 2 ^ k) : S.foldl (fun a b => a ||| b) y < 2 ^ k := by
  induction S generalizing y with
  | nil => exact hy
  | cons a S ih => rw [List.foldl_cons]; exact ih _ (Nat.or_lt_two_pow hy (h a (by simp))) fun x hx => h x (by simp [hx])
def muL (n : Nat) (ls : List Sp) (q : Cb) : List Nat := bif ckC n ls q then (match shL q ls n with | [] => [] | y :: r => memN (andL y (y :: r)) n) else []
def spL (n : Nat) (ls : List Sp) (q : Cb) : List Nat := bif ckC n ls q then (match shL q ls n with | [] => [] | y :: r => lefN (orL (y :: r)) n) else []
theorem take_fold {α β : Type} (f : β → α → β) (b : β) (S : List α) {k : Nat} {x : α} (h : S[k]? = some x) : (S.take (k + 1)).foldl f b = f ((S.take k).foldl f b) x := by
  rw [List.take_add_one, h, List.foldl_append]; rfl
theorem getD_of {S : List Nat} {k x : Nat} (h : S[k]? = some x) : S.getD k 0 = x := by rw [List.getD_eq_getElem?_getD, h]; rfl

end Go.Proofs.Ytglpgcgidkdkiaa

namespace Go.Proofs.Ytglpgcgidkdkiaa
open Go.RowKit
open Go.Sort (grow)
set_option linter.unusedVariables false
set_option linter.unusedSimpArgs false



end Go.Proofs.Ytglpgcgidkdkiaa

namespace Go.Proofs.Ytglpgcgidkdkiaa
open Go.RowKit
open Go.Sort (grow)
set_option linter.unusedVariables false
set_option linter.unusedSimpArgs false

theorem keep3 {wr w' : World} {p0 p1 p2 : Addr} {v0 v1 v2 : Value} (hb : Below wr.heap.size wr w') (h0 : wr.cell? p0 = some v0) (h1 : wr.cell? p1 = some v1) (h2 : wr.cell? p2 = some v2)
    (l0 : p0.block < wr.heap.size) (l1 : p1.block < wr.heap.size) (l2 : p2.block < wr.heap.size) : w'.cell? p0 = some v0 ∧ w'.cell? p1 = some v1 ∧ w'.cell? p2 = some v2 :=
  ⟨(hb.cell l0).trans h0, (hb.cell l1).trans h1, (hb.cell l2).trans h2⟩
/-- what the closure of Cheapest reads -/
structure ChM (bl bc bs bb : Nat) (A : Option Addr) (n c : Nat) (link shackle best : Int) (W : World) : Prop where
  b : Blk W bb 3 #[.int .i64 best]
  l : W.cell? ⟨bl, 0, none⟩ = some (.int .i64 link)
  s : W.cell? ⟨bs, 0, none⟩ = some (.int .i64 shackle)
  c : W.cell? ⟨bc, 0, none⟩ = some (.slice A n c)
  ne : bb ≠ bl ∧ bb ≠ bs ∧ bb ≠ bc
section
variable {bl bc bs bb : Nat} {A : Option Addr} {n c : Nat} {link shackle best : Int} {W W' : World}
theorem ChM.below (h : ChM bl bc bs bb A n c link shackle best W) (hb : Below W.heap.size W W') : ChM bl bc bs bb A n c link shackle best W' :=
  ⟨h.b.below hb h.b.lt, (hb.cell (World.block_lt_of_cell? _ _ h.l)).trans h.l, (hb.cell (World.block_lt_of_cell? _ _ h.s)).trans h.s, (hb.cell (World.block_lt_of_cell? _ _ h.c)).trans h.c, h.ne⟩
theorem ChM.set (h : ChM bl bc bs bb A n c link shackle best W) (k : Int) : ChM bl bc bs bb A n c link shackle k (W.setCell ⟨bb, 0, none⟩ (.int .i64 k)) := by
  have hw : ∀ {p : Addr} {u : Value}, W.cell? p = some u → bb ≠ p.block → (W.setCell ⟨bb, 0, none⟩ (.int .i64 k)).cell? p = some u := fun {p u} hc hn =>
    (World.cell?_of_block (Below.heap_setCell W _ _ p.block (fun e => hn e.symm))).trans hc
  refine ⟨?_, hw h.l h.ne.1, hw h.s h.ne.2.1, hw h.c h.ne.2.2, h.ne⟩
  have := h.b.set_ 0 (.int .i64 k)
  simpa using this
end
theorem prc_bd {link shackle : Int} (h1 : 0 ≤ link) (h2 : link ≤ 999) (h3 : 0 ≤ shackle) (h4 : shackle ≤ 999) {n : Nat} (hn : n ≤ 12) (x : Nat) :
    (0 ≤ link * (cntN x n : Int) ∧ link * (cntN x n : Int) ≤ 11988) ∧ 0 ≤ shackle * shk x n ∧ shackle * shk x n ≤ 11988 := by
  have a : cntN x n ≤ n := by
    unfold cntN
    have := selN_len x n true
    rwa [selN_true] at this
  have b : shk x n ≤ 12 := by
    have := pcs_len x n
    unfold shk; omega
  have c := shk_nonneg x n
  have d : link * (cntN x n : Int) ≤ 999 * 12 := Int.mul_le_mul h2 (by omega) (by omega) (by omega)
  have e : shackle * shk x n ≤ 999 * 12 := Int.mul_le_mul h4 b c (by omega)
  exact ⟨⟨Int.mul_nonneg h1 (by omega), by omega⟩, Int.mul_nonneg h3 c, by omega⟩

end Go.Proofs.Ytglpgcgidkdkiaa

namespace Go.Proofs.Ytglpgcgidkdkiaa
open Go.RowKit
open Go.Sort (grow)
set_option linter.unusedVariables false
set_option linter.unusedSimpArgs false

def chK (q : Cb) (ls : List Sp) (n : Nat) (link shackle : Int) (k : Nat) : Int := ((List.range k).filter (goodB q ls n)).foldl (chStep link shackle n) (-1)
theorem chK_yes {q : Cb} {ls : List Sp} {n k : Nat} {link shackle : Int} (h : goodB q ls n k = true) : chK q ls n link shackle (k + 1) = chStep link shackle n (chK q ls n link shackle k) k := by
  unfold chK; rw [List.range_succ, List.filter_append, List.foldl_append]; simp [h]
theorem chK_no {q : Cb} {ls : List Sp} {n k : Nat} {link shackle : Int} (h : goodB q ls n k = false) : chK q ls n link shackle (k + 1) = chK q ls n link shackle k := by
  unfold chK; rw [List.range_succ, List.filter_append, List.foldl_append]; simp [h]
theorem chK_all (q : Cb) (ls : List Sp) (n : Nat) (link shackle : Int) : chK q ls n link shackle (2 ^ n) = chV q ls n link shackle := rfl
theorem chK_bd {q : Cb} {ls : List Sp} {n : Nat} {link shackle : Int} (h1 : 0 ≤ link) (h2 : link ≤ 999) (h3 : 0 ≤ shackle) (h4 : shackle ≤ 999) (hn : n ≤ 12) (k : Nat) : -1 ≤ chK q ls n link shackle k ∧ chK q ls n link shackle k ≤ 100000 := by
  induction k with
  | zero => simp [chK]
  | succ k ih =>
    cases h : goodB q ls n k
    · rw [chK_no h]; exact ih
    · rw [chK_yes h]
      have := prc_bd h1 h2 h3 h4 hn k
      unfold chStep
      split
      · unfold prc; omega
      · exact ih
/-- what Cheapest hands back: a price, an error -/
def chR (n : Nat) (ls : List Sp) (q : Cb) (link shackle : Int) : Int × Int :=
  bif ckC n ls q then (bif (wi_q7 link 0 999 && wi_q7 shackle 0 999) then (bif decide (chV q ls n link shackle < 0) then (0, 3) else (chV q ls n link shackle, 0)) else (0, 1)) else (0, 70)
theorem chR_ck {n : Nat} {ls : List Sp} {q : Cb} (link shackle : Int) (h : ckC n ls q = false) : chR n ls q link shackle = (0, 70) := by simp [chR, h]
theorem chR_arg {n : Nat} {ls : List Sp} {q : Cb} {link shackle : Int} (h : ckC n ls q = true) (h2 : (wi_q7 link 0 999 && wi_q7 shackle 0 999) = false) : chR n ls q link shackle = (0, 1) := by unfold chR; rw [h, h2]; rfl
theorem chR_ok {n : Nat} {ls : List Sp} {q : Cb} {link shackle : Int} (h : ckC n ls q = true) (h2 : (wi_q7 link 0 999 && wi_q7 shackle 0 999) = true) :
    chR n ls q link shackle = bif decide (chV q ls n link shackle < 0) then (0, 3) else (chV q ls n link shackle, 0) := by unfold chR; rw [h, h2]; rfl

end Go.Proofs.Ytglpgcgidkdkiaa

namespace Go.Proofs.Ytglpgcgidkdkiaa
open Go.RowKit
open Go.Sort (grow)
set_option linter.unusedVariables false
set_option linter.unusedSimpArgs false

/-- the k-th number of a repair is that of a link, and above the one before -/
def stO (n : Nat) (l : List Int) (k : Nat) : Bool := wi_q7 (iAt l k) 0 ((n : Int) - 1) && !(decide (0 < k) && decide (iAt l k ≤ iAt l (k - 1)))
def isR (n m : Nat) (l : List Int) : Bool := allN m (stO n l)
def ofK (l : List Int) (k : Nat) : Nat := (List.range k).foldl (fun a j => a ||| 2 ^ (iAt l j).toNat) 0
theorem ofK_succ (l : List Int) (k : Nat) : ofK l (k + 1) = ofK l k ||| 2 ^ (iAt l k).toNat := by unfold ofK; rw [List.range_succ, List.foldl_append]; rfl
theorem ofK_lt {n m : Nat} {l : List Int} {k : Nat} (hk : k ≤ m) (h : ∀ j, j < k → stO n l j = true) : ofK l k < 2 ^ n := by
  induction k with
  | zero => exact Nat.two_pow_pos n
  | succ k ih =>
    rw [ofK_succ]
    refine Nat.or_lt_two_pow (ih (by omega) fun j hj => h j (by omega)) ?_
    have := h k (by omega)
    simp only [stO, Bool.and_eq_true] at this
    have := wi_true_q7.1 this.1
    exact Nat.pow_lt_pow_right (by omega) (by omega)
/-- what given hands back: a set of links, an error -/
def gvR (n m : Nat) (ls : List Sp) (q : Cb) (l : List Int) : Nat × Int := bif ckC n ls q then (bif isR n m l then (ofK l m, 0) else (0, 1)) else (0, 70)
theorem gv_ck {n m : Nat} {ls : List Sp} {q : Cb} {l : List Int} (h : ckC n ls q = false) : gvR n m ls q l = (0, 70) := by simp [gvR, h]
theorem gv_bad {n m : Nat} {ls : List Sp} {q : Cb} {l : List Int} (h : ckC n ls q = true) (h2 : isR n m l = false) : gvR n m ls q l = (0, 1) := by simp [gvR, h, h2]
theorem gv_ok {n m : Nat} {ls : List Sp} {q : Cb} {l : List Int} (h : ckC n ls q = true) (h2 : isR n m l = true) : gvR n m ls q l = (ofK l m, 0) := by simp [gvR, h, h2]
theorem shl1 (a : Nat) (ha : a ≤ 40) : IntKind.u64.wrap ((2 : Int) ^ a) = ((2 ^ a : Nat) : Int) := by
  have e : (2 : Int) ^ a = ((2 ^ a : Nat) : Int) := by simp
  have h : 2 ^ a ≤ 2 ^ 40 := Nat.pow_le_pow_right (by omega) ha
  rw [e]
  obtain ⟨P, hP⟩ : ∃ P, 2 ^ a = P := ⟨_, rfl⟩
  rw [hP] at h ⊢
  rw [IntKind.wrap_u64]; omega

end Go.Proofs.Ytglpgcgidkdkiaa

namespace Go.Proofs.Ytglpgcgidkdkiaa
open Go.RowKit
open Go.Sort (grow)
set_option linter.unusedVariables false
set_option linter.unusedSimpArgs false

/-- of a repair: its error; that it is good; its shackles -/
def gvE (n m : Nat) (ls : List Sp) (q : Cb) (l : List Int) : Int := (gvR n m ls q l).2
def gvG (n m : Nat) (ls : List Sp) (q : Cb) (l : List Int) : Bool := gvE n m ls q l == 0 && goodB q ls n (gvR n m ls q l).1
def gvS (n m : Nat) (ls : List Sp) (q : Cb) (l : List Int) : Int := bif gvE n m ls q l == 0 then shk (gvR n m ls q l).1 n else 0
theorem gvR_cases (n m : Nat) (ls : List Sp) (q : Cb) (l : List Int) : (∃ z : Int, z ≠ 0 ∧ gvR n m ls q l = (0, z)) ∨ (∃ x : Nat, gvR n m ls q l = (x, 0) ∧ x < 4096 ∧ n ≤ 12 ∧ ckC n ls q = true ∧ isR n m l = true ∧ x = ofK l m) := by
  cases h : ckC n ls q
  · exact .inl ⟨70, by omega, gv_ck h⟩
  · cases h2 : isR n m l
    · exact .inl ⟨1, by omega, gv_bad h h2⟩
    · have hn := ck_len h
      have a := ofK_lt (n := n) (Nat.le_refl m) (allN_iff.1 h2)
      have b : 2 ^ n ≤ 2 ^ 12 := Nat.pow_le_pow_right (by omega) hn
      exact .inr ⟨ofK l m, gv_ok h h2, by omega, hn, rfl, rfl, rfl⟩

end Go.Proofs.Ytglpgcgidkdkiaa

namespace Go.Proofs.Ytglpgcgidkdkiaa
open Go.RowKit
open Go.Sort (grow)
set_option linter.unusedVariables false
set_option linter.unusedSimpArgs false

set_option maxHeartbeats 400000 in
theorem in7_c (A : Option Addr) (n c : Nat) (x : Int) (xs : List Int) (w : World) (hn : n ≤ 40) (HX : IntsAt w A n xs) :
    Calls Try.prog 47 #[.slice A n c, .int .i64 x] w fun e w' => e = .returned (.bool (anyN n fun k => iAt xs k == x)) ∧ w = w' := by
  have hin := In_c A n c x xs w hn HX
  obtain ⟨r, hr⟩ : ∃ r, (anyN n fun k => iAt xs k == x) = r := ⟨_, rfl⟩
  rw [hr] at hin ⊢
  replace hin := Lib.hid hin
  clear hr HX
  go_enter Try.func47, Try.ntmps47
  go_wp2_with (go_at_call 23; refine hin.out.mono ?_; rintro e w' ⟨rfl, rfl⟩)
  go_ret
  exact ⟨rfl, rfl⟩
set_option maxRecDepth 100000 in
set_option maxHeartbeats 3200000 in
theorem IsRepair_c (A B : Option Addr) (n c m d : Nat) (q : Cb) (l : List Int) (w : World) (hn : n ≤ 40) (hm : m ≤ 40) (HX : IntsAt w B m l) :
    Calls Try.prog 20 #[.agg #[.slice A n c, .int .i64 q.need, .int .i64 q.gap, .int .i64 q.doubt, .int .i64 q.joins, .int .i64 q.least], .slice B m d] w
      fun e w' => e = .returned (.bool (isR n m l)) ∧ Below w.heap.size w w' := by
  have HXI := Lib.hid HX
  clear HX
  go_enter Try.func20, Try.ntmps20
  go_wp2
  go_name_world W hW
  obtain ⟨hB, hz⟩ := al1 hW
  obtain ⟨l_0, q_0, f_0⟩ := al1_0 hW
  have HZ := Lib.hid hz
  have zs := hB.size
  clear hW hz
  go_loopw [5] (fun i (wr : World) => ∃ k : Nat, k ≤ m ∧ i = .int .i64 k ∧ Hid (∀ j, j < k → stO n l j = true) ∧ Below W.heap.size W wr) (fun i _ => m - (intOf i).toNat)
  case atStart => exact ⟨0, by omega, rfl, fun j hj => absurd hj (by omega), Below.refl _ _⟩
  case round =>
    obtain ⟨k, hk, rfl, H, hb⟩ := hrel
    obtain ⟨hc, hf⟩ := bcell hb
    have zb := hb.size
    have m0 := Nat.lt_of_lt_of_le l_0 zb
    by_cases hlt : k < m
    · have hltB : decide ((k : Int) < m) = true := by simp; omega
      have HX1 := Lib.hid (HXI.out.later (by (repeat first | with_reducible assumption | with_reducible exact Below.refl _ _ | refine below_drewN ?_ _ | refine Below.drew ?_ | refine Below.alloc ?_ (by first | omega | (with_reducible exact Below.size (by assumption)) | (simp; done) | (simp; omega)) _ | refine Below.setCell ?_ (by first | omega | (with_reducible exact Below.size (by assumption)) | (simp; done) | (simp; omega)) _ | refine below_step (by assumption) (by first | omega | (with_reducible exact Below.size (by assumption)) | (simp; done) | (simp; omega)) ?_) : Below w.heap.size w wr))
      obtain ⟨b, o, hB, hb0, x0⟩ := HX1.out.get hlt
      have hst : Hid (stO n l k = (wi_q7 (iAt l k) 0 ((n : Int) - 1) && !(decide (0 < k) && decide (iAt l k ≤ iAt l (k - 1))))) := rfl
      have HN := Lib.hid (fun h : stO n l k = false => allN_no (p := stO n l) hlt h)
      have HS := Lib.hid (fun (h : stO n l k = true) j (hj : j < k + 1) => by
        rcases Nat.lt_succ_iff_lt_or_eq.1 hj with h' | rfl
        · exact H.out j h'
        · exact h : stO n l k = true → ∀ j, j < k + 1 → stO n l j = true)
      have hwi := fun v => withinR_c v 0 ((n : Int) - 1)
      have hs1 : IntKind.i64.wrap ((n : Int) - 1) = (n : Int) - 1 := IntWalk.i64_in _ (by omega)
      cases e1 : wi_q7 (iAt l k) 0 ((n : Int) - 1)
      · have HF := Lib.hid (HN.out (by rw [hst.out, e1]; rfl))
        obtain ⟨v, hv⟩ : ∃ v, iAt l k = v := ⟨_, rfl⟩
        rw [hv] at x0 e1
        have hwv : ∀ W, Calls Try.prog 39 #[.int .i64 v, .int .i64 0, .int .i64 ((n : Int) - 1)] W fun e w' => e = .returned (.bool false) ∧ W = w' := fun W => by rw [← e1]; exact hwi v W
        replace hwv := Lib.hid hwv
        clear hwi e1 hv
        subst hB
        go_wp2
        go_quiet ((go_at_call 39; exact quiet_left (hwv.out _)))
        go_wp2
        go_ret
        exact ⟨ret_bool HF.out.symm, by (repeat first | with_reducible assumption | with_reducible exact Below.refl _ _ | refine below_drewN ?_ _ | refine Below.drew ?_ | refine Below.alloc ?_ (by first | omega | (with_reducible exact Below.size (by assumption)) | (simp; done) | (simp; omega)) _ | refine Below.setCell ?_ (by first | omega | (with_reducible exact Below.size (by assumption)) | (simp; done) | (simp; omega)) _ | refine below_step (by assumption) (by first | omega | (with_reducible exact Below.size (by assumption)) | (simp; done) | (simp; omega)) ?_)⟩
      · obtain ⟨v, hv⟩ : ∃ v, iAt l k = v := ⟨_, rfl⟩
        rw [hv] at x0 e1 hst
        have hwv : ∀ W, Calls Try.prog 39 #[.int .i64 v, .int .i64 0, .int .i64 ((n : Int) - 1)] W fun e w' => e = .returned (.bool true) ∧ W = w' := fun W => by rw [← e1]; exact hwi v W
        replace hwv := Lib.hid hwv
        rw [e1] at hst
        clear hwi e1 hv
        cases k with
        | zero =>
          have HT := Lib.hid (HS.out (by rw [hst.out]; rfl))
          replace x0 : wr.cell? ⟨b, o, none⟩ = some (.int .i64 v) := x0
          have hz : decide ((0 : Int) < ((0 : Nat) : Int)) = false := rfl
          subst hB
          go_wp2
          go_quiet ((go_at_call 39; exact quiet_left (hwv.out _)))
          go_wp2
          go_roundw
          case rel => exact ⟨0 + 1, by omega, by go_num, HT, by (repeat first | with_reducible assumption | with_reducible exact Below.refl _ _ | refine below_drewN ?_ _ | refine Below.drew ?_ | refine Below.alloc ?_ (by first | omega | (with_reducible exact Below.size (by assumption)) | (simp; done) | (simp; omega)) _ | refine Below.setCell ?_ (by first | omega | (with_reducible exact Below.size (by assumption)) | (simp; done) | (simp; omega)) _ | refine below_step (by assumption) (by first | omega | (with_reducible exact Below.size (by assumption)) | (simp; done) | (simp; omega)) ?_)⟩
          case measure => simp [intOf]; omega
        | succ j =>
          obtain ⟨b2, o2, hB2, hb2, x1⟩ := HX1.out.get (show j < m by omega)
          obtain ⟨rfl, rfl⟩ : b = b2 ∧ o = o2 := by
            rw [hB] at hB2
            simpa using hB2
          rw [show j + 1 - 1 = j from rfl] at hst
          obtain ⟨y, hy⟩ : ∃ y, iAt l j = y := ⟨_, rfl⟩
          rw [hy] at hst x1
          clear hy hB2
          subst hB
          have hs2 : IntKind.i64.wrap (((j + 1 : Nat) : Int) - 1) = (j : Int) := by rw [IntWalk.i64_in _ (by omega)]; omega
          have hs3 : IntKind.i64.wrap ((j : Int) + 1 - 1) = (j : Int) := by rw [IntWalk.i64_in _ (by omega)]; omega
          cases e2 : decide (v ≤ y)
          · rw [e2] at hst
            have HT := Lib.hid (HS.out (by rw [hst.out]; simp))
            go_wp2
            go_quiet ((go_at_call 39; exact quiet_left (hwv.out _)))
            go_wp2
            go_roundw
            case rel => exact ⟨j + 1 + 1, by omega, by go_num, HT, by (repeat first | with_reducible assumption | with_reducible exact Below.refl _ _ | refine below_drewN ?_ _ | refine Below.drew ?_ | refine Below.alloc ?_ (by first | omega | (with_reducible exact Below.size (by assumption)) | (simp; done) | (simp; omega)) _ | refine Below.setCell ?_ (by first | omega | (with_reducible exact Below.size (by assumption)) | (simp; done) | (simp; omega)) _ | refine below_step (by assumption) (by first | omega | (with_reducible exact Below.size (by assumption)) | (simp; done) | (simp; omega)) ?_)⟩
            case measure => simp [intOf]; omega
          · rw [e2] at hst
            have HF := Lib.hid (HN.out (by rw [hst.out]; simp))
            go_wp2
            go_quiet ((go_at_call 39; exact quiet_left (hwv.out _)))
            go_wp2
            go_ret
            exact ⟨ret_bool HF.out.symm, by (repeat first | with_reducible assumption | with_reducible exact Below.refl _ _ | refine below_drewN ?_ _ | refine Below.drew ?_ | refine Below.alloc ?_ (by first | omega | (with_reducible exact Below.size (by assumption)) | (simp; done) | (simp; omega)) _ | refine Below.setCell ?_ (by first | omega | (with_reducible exact Below.size (by assumption)) | (simp; done) | (simp; omega)) _ | refine below_step (by assumption) (by first | omega | (with_reducible exact Below.size (by assumption)) | (simp; done) | (simp; omega)) ?_)⟩
    · obtain rfl : k = m := by omega
      have hltB : decide (((k : Nat) : Int) < k) = false := by simp
      have HT := Lib.hid (allN_iff.2 H.out)
      clear H
      go_wp2
      go_ret
      exact ⟨ret_bool (by rw [isR, HT.out]), by (repeat first | with_reducible assumption | with_reducible exact Below.refl _ _ | refine below_drewN ?_ _ | refine Below.drew ?_ | refine Below.alloc ?_ (by first | omega | (with_reducible exact Below.size (by assumption)) | (simp; done) | (simp; omega)) _ | refine Below.setCell ?_ (by first | omega | (with_reducible exact Below.size (by assumption)) | (simp; done) | (simp; omega)) _ | refine below_step (by assumption) (by first | omega | (with_reducible exact Below.size (by assumption)) | (simp; done) | (simp; omega)) ?_)⟩

end Go.Proofs.Ytglpgcgidkdkiaa
