/- Strange of stretch (layer 4): the readings that are right in no truth; Small functions of the specification and of the statements (layer 4): In, subset, IsRight, Wrongs, Held. -/
import Derived.Test.YtglpgcgidkdkiaaQc39
import Derived.Deep.DrawnRows
import Derived.Deep.DeepCutAuto
import Derived.Handy
import Derived.WalkMore
import Derived.Shelf.Abstract
import Derived.Laws.EntriesVeiled
namespace Go.Proofs.Ytglpgcgidkdkiaa
open Go.RowKit
open Go.Sort (grow)
set_option linter.unusedVariables false
set_option linter.unusedSimpArgs false

/-- a bundle in some truth of which reading x is right -/
def sgB4 (p : P4) (x : Re4) (t : Bu4) : Bool := (sd4 x.wh t).any fun n => rt4 p.ir (roAt p.rods x.rd.toNat).gr x n (t.u.at_ x.rd.toNat)
def sgA4 (p : P4) (l : List Bu4) (k : Nat) : Bool := l.any (sgB4 p (reAt p.res k))
def sgL4 (f : Nat → Bool) (k : Nat) : List Int := ((List.range k).filter fun i => !f i).map fun (i : Nat) => (i : Int)
theorem sgL4_len (f : Nat → Bool) (k : Nat) : (sgL4 f k).length ≤ k := by
  unfold sgL4
  rw [List.length_map]
  exact Nat.le_trans (List.length_filter_le _ _) (by simp)
theorem sgL4_yes {f : Nat → Bool} {k : Nat} (h : f k = true) : sgL4 f (k + 1) = sgL4 f k := by
  unfold sgL4
  rw [List.range_succ, List.filter_append, List.map_append]; simp [h]
theorem sgL4_no {f : Nat → Bool} {k : Nat} (h : f k = false) : sgL4 f (k + 1) = sgL4 f k ++ [(k : Int)] := by
  unfold sgL4
  rw [List.range_succ, List.filter_append, List.map_append]; simp [h]
/-- what Strange returns -/
def sgs4 (p : P4) : List Int := bif op4 p true == 0 then sgL4 (sgA4 p (tr4 p)) p.res.length else []
theorem okx_of {nr nd : Nat} {p : P4} (ok : Ok4 nr nd p) {k : Nat} (hk : k < nd) : OkX nr (reAt p.res k) := by
  have h := ok.re k hk
  exact ⟨h.2.1, h.2.2.1, h.2.2.2.1, h.2.2.2.2.1, h.2.2.2.2.2⟩
theorem any_nat4 {l : List Int} {f : Int → Bool} : anyN l.length (fun k => f (iAt l k)) = l.any f := by
  rw [Bool.eq_iff_iff, List.any_eq_true]
  constructor
  · intro h
    apply Classical.byContradiction
    intro hn
    rw [anyN_no fun k hk => by
      cases e : f (iAt l k)
      · rfl
      · exact absurd ⟨_, iAt_mem hk, e⟩ hn] at h
    cases h
  · rintro ⟨x, hx, h⟩
    obtain ⟨i, hi, e⟩ := List.getElem_of_mem hx
    refine anyN_yes hi ?_
    show f (iAt l i) = true
    unfold iAt
    rw [List.getD_eq_getElem?_getD, List.getElem?_eq_getElem hi, Option.getD_some, e]
    exact h
set_option maxHeartbeats 400000 in
theorem indexFuncI4_c (A : Option Addr) (n c g : Nat) (fst cap : Array Value) (xs : List Int) (p : Nat → Bool) (w : World) (hn : n ≤ 100000) (HX : IntsAt w A n xs)
    (HE : ∀ args w, (callFunc g args).run Try.prog w = .ok (.enter g args) w)
    (HF : ∀ k, k < n → ∀ w', Below w.heap.size w w' → Calls Try.prog g (fst.push (.int .i64 (iAt xs k)) ++ cap) w' fun e w'' => e = .returned (.bool (p k)) ∧ Below w'.heap.size w' w'') :
    Calls Try.prog 134 #[.slice A n c, .func (.func g) fst cap] w fun e w' => e = .returned (.int .i64 (idxN n p)) ∧ Below w.heap.size w w' := by
  have HFI := Lib.hid HF
  have HXI := Lib.hid HX
  clear HF HX
  go_enter Try.func134, Try.ntmps134
  go_wp2
  go_loopw [8] (fun i (wr : World) => ∃ k : Nat, k ≤ n ∧ i = .int .i64 k ∧ Hid (∀ j, j < k → p j = false) ∧ Below w.heap.size w wr) (fun i _ => n - (intOf i).toNat)
  case atStart => exact ⟨0, by omega, rfl, fun j hj => absurd hj (by omega), Below.refl _ _⟩
  case round =>
    obtain ⟨k, hk, rfl, H1, hb⟩ := hrel
    have zb := hb.size
    by_cases hlt : k < n
    · obtain ⟨bp, op, rfl, hbp, x0⟩ := (HXI.out.later hb).get hlt
      go_wp2_with fail
      refine (HFI.out k hlt _ hb).mono ?_
      (rintro e w1 ⟨rfl, hb1⟩; obtain ⟨hc1, hf1⟩ := bcell hb1; have zs1 := hb1.size; (try simp at zs1))
      go_wp2
      all_goals first
        | (go_roundw
           case rel => exact ⟨k + 1, by omega, by go_num, fun j hj => by
             rcases Nat.lt_succ_iff_lt_or_eq.1 hj with h | rfl
             · exact H1.out j h
             · rename_i h; simpa using h, by (repeat first | with_reducible assumption | with_reducible exact Below.refl _ _ | refine below_drewN ?_ _ | refine Below.drew ?_ | refine Below.alloc ?_ (by first | omega | (with_reducible exact Below.size (by assumption)) | (simp; done) | (simp; omega)) _ | refine Below.setCell ?_ (by first | omega | (with_reducible exact Below.size (by assumption)) | (simp; done) | (simp; omega)) _ | refine below_step (by assumption) (by first | omega | (with_reducible exact Below.size (by assumption)) | (simp; done) | (simp; omega)) ?_)⟩
           case measure => simp [intOf]; omega)
        | (go_ret
           rename_i h
           exact ⟨ret_int (idxN_some hlt (by simpa using h) H1.out).symm, by (repeat first | with_reducible assumption | with_reducible exact Below.refl _ _ | refine below_drewN ?_ _ | refine Below.drew ?_ | refine Below.alloc ?_ (by first | omega | (with_reducible exact Below.size (by assumption)) | (simp; done) | (simp; omega)) _ | refine Below.setCell ?_ (by first | omega | (with_reducible exact Below.size (by assumption)) | (simp; done) | (simp; omega)) _ | refine below_step (by assumption) (by first | omega | (with_reducible exact Below.size (by assumption)) | (simp; done) | (simp; omega)) ?_)⟩)
    · obtain rfl : n = k := by omega
      go_wp2
      go_ret
      exact ⟨ret_int (idxN_none H1.out).symm, by (repeat first | with_reducible assumption | with_reducible exact Below.refl _ _ | refine below_drewN ?_ _ | refine Below.drew ?_ | refine Below.alloc ?_ (by first | omega | (with_reducible exact Below.size (by assumption)) | (simp; done) | (simp; omega)) _ | refine Below.setCell ?_ (by first | omega | (with_reducible exact Below.size (by assumption)) | (simp; done) | (simp; omega)) _ | refine below_step (by assumption) (by first | omega | (with_reducible exact Below.size (by assumption)) | (simp; done) | (simp; omega)) ?_)⟩
set_option maxHeartbeats 400000 in
theorem containsFuncI4_c (A : Option Addr) (n c g : Nat) (fst cap : Array Value) (xs : List Int) (p : Nat → Bool) (w : World) (hn : n ≤ 100000) (HX : IntsAt w A n xs)
    (HE : ∀ args w, (callFunc g args).run Try.prog w = .ok (.enter g args) w)
    (HF : ∀ k, k < n → ∀ w', Below w.heap.size w w' → Calls Try.prog g (fst.push (.int .i64 (iAt xs k)) ++ cap) w' fun e w'' => e = .returned (.bool (p k)) ∧ Below w'.heap.size w' w'') :
    Calls Try.prog 121 #[.slice A n c, .func (.func g) fst cap] w fun e w' => e = .returned (.bool (anyN n p)) ∧ Below w.heap.size w w' := by
  have HC := Lib.hid (indexFuncI4_c A n c g fst cap xs p w hn HX HE HF)
  clear HF HX
  go_enter Try.func121, Try.ntmps121
  go_wp2_with fail
  refine HC.out.mono ?_
  (rintro e w1 ⟨rfl, hb1⟩; obtain ⟨hc1, hf1⟩ := bcell hb1; have zs1 := hb1.size; (try simp at zs1))
  go_wp2
  go_ret
  exact ⟨ret_bool idxN_ge, by (repeat first | with_reducible assumption | with_reducible exact Below.refl _ _ | refine below_drewN ?_ _ | refine Below.drew ?_ | refine Below.alloc ?_ (by first | omega | (with_reducible exact Below.size (by assumption)) | (simp; done) | (simp; omega)) _ | refine Below.setCell ?_ (by first | omega | (with_reducible exact Below.size (by assumption)) | (simp; done) | (simp; omega)) _ | refine below_step (by assumption) (by first | omega | (with_reducible exact Below.size (by assumption)) | (simp; done) | (simp; omega)) ?_)⟩

end Go.Proofs.Ytglpgcgidkdkiaa

namespace Go.Proofs.Ytglpgcgidkdkiaa
open Go.RowKit
open Go.Sort (grow)
set_option linter.unusedVariables false
set_option linter.unusedSimpArgs false

theorem run_max24 {P : Program} {w : World} (ts : Array TypeId) (t : TypeId) (x y : Int) : (Builtin.max_ ts t #[.int .i64 x, .int .i64 y]).run P w = .ok (.int .i64 (max x y)) w := by
  simp [Builtin.max_, Builtin.max2]
  omega
attribute [local go_sem high] run_max24
/-- a slice of numbers contains one -/
def ic4 (xs : List Int) (n : Nat) (x : Int) : Bool := anyN n fun k => iAt xs k == x
theorem ic4_mem {xs : List Int} {x : Int} : ic4 xs xs.length x = true ↔ x ∈ xs := by
  unfold ic4
  rw [any_nat4 (f := fun y => y == x), List.any_eq_true]
  constructor
  · rintro ⟨y, hy, h⟩; rw [← (by simpa using h : y = x)]; exact hy
  · intro h; exact ⟨x, h, by simp⟩
/-- one slice of numbers lies within another -/
def sub4 (xs ys : List Int) : Bool := decide (xs.length ≤ ys.length) && (decide (ys.length ≤ 400) && allN xs.length fun k => ic4 ys ys.length (iAt xs k))
theorem sub4_true {xs ys : List Int} : sub4 xs ys = true ↔ xs.length ≤ ys.length ∧ ys.length ≤ 400 ∧ ∀ x ∈ xs, x ∈ ys := by
  unfold sub4
  simp only [Bool.and_eq_true, decide_eq_true_eq]
  rw [allN_iff]
  constructor
  · rintro ⟨h1, h2, h3⟩
    refine ⟨h1, h2, fun x hx => ?_⟩
    obtain ⟨i, hi, e⟩ := List.getElem_of_mem hx
    have := ic4_mem.1 (h3 i hi)
    unfold iAt at this
    rw [List.getD_eq_getElem?_getD, List.getElem?_eq_getElem hi, Option.getD_some, e] at this
    exact this
  · rintro ⟨h1, h2, h3⟩
    exact ⟨h1, h2, fun k hk => ic4_mem.2 (h3 _ (iAt_mem hk))⟩
/-- how many of the first k are not so -/
def cw4 (f : Nat → Bool) (k : Nat) : Nat := ((List.range k).filter fun j => !f j).length
theorem cw4_succ {f : Nat → Bool} {k : Nat} : cw4 f (k + 1) = cw4 f k + (bif f k then 0 else 1) := by
  unfold cw4
  rw [List.range_succ, List.filter_append, List.length_append]
  cases h : f k <;> simp [h]
theorem cw4_le {f : Nat → Bool} {k : Nat} : cw4 f k ≤ k := by
  unfold cw4
  exact Nat.le_trans (List.length_filter_le _ _) (by simp)
/-- reading j is right with some lengths -/
def rgT4 (p : P4) (us : List Int) (bb aa : Int) (j : Nat) : Bool := rt4 p.ir (roAt p.rods (reAt p.res j).rd.toNat).gr (reAt p.res j) (if (reAt p.res j).wh = 2 then aa else bb) (iAt us (reAt p.res j).rd.toNat)

end Go.Proofs.Ytglpgcgidkdkiaa
