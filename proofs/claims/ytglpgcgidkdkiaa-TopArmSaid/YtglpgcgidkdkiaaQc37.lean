/- ends of stretch (layer 4): the least and the greatest stretch of some truths; Stretch of stretch (layer 4): the least and the greatest stretch of a pull; holds of stretch (layer 4): what is known of the stretch and a part of the length; Holds of stretch (layer 4); Best of stretch (layer 4): the least part with which it is sure. -/
import Derived.Test.YtglpgcgidkdkiaaQc36
import Derived.Deep.DrawnRows
import Derived.Deep.DeepCutAuto
import Derived.BigRegionIn
import Derived.Shelf.RegionOpen
namespace Go.Proofs.Ytglpgcgidkdkiaa
open Go.RowKit
open Go.Sort (grow)
set_option linter.unusedVariables false
set_option linter.unusedSimpArgs false

def fr4 (l : List Int) : Int := iAt l 0
def la4 (l : List Int) : Int := iAt l (l.length - 1)
/-- the least and the greatest stretch of a bundle -/
def sp4 (x : Bu4) : Sp := ⟨fr4 x.a.2 - la4 x.b.2, la4 x.a.2 - fr4 x.b.2⟩
def hl4 (a b : Sp) : Sp := ⟨min a.lo b.lo, max a.hi b.hi⟩
theorem hl4_idem (a : Sp) : hl4 a a = a := by unfold hl4; simp
/-- the least and the greatest stretch of the first k -/
def en4 (l : List Bu4) (k : Nat) : Sp :=
  match (l.take k).map sp4 with
  | [] => ⟨0, 0⟩
  | x :: xs => (x :: xs).foldl hl4 x
theorem en4_succ {l : List Bu4} {k : Nat} {y : Bu4} (h : l[k]? = some y) : en4 l (k + 1) = hl4 (if k = 0 then sp4 y else en4 l k) (sp4 y) := by
  unfold en4
  rw [List.take_add_one, h, List.map_append]
  cases k with
  | zero => simp [hl4_idem]
  | succ k =>
    have hl := (List.getElem?_eq_some_iff.1 h).1
    cases e : (l.take (k + 1)).map sp4 with
    | nil =>
      have := congrArg List.length e
      rw [List.length_map, List.length_take, List.length_nil] at this
      omega
    | cons x xs =>
      simp only [Option.toList, List.map_cons, List.map_nil, List.cons_append]
      rw [if_neg (by omega), ← List.cons_append, List.foldl_append]
      rfl
/-- a bundle whose lengths are as they can be -/
structure OkB (x : Bu4) : Prop where
  bn : x.b.2 ≠ []
  an : x.a.2 ≠ []
  b : ∀ n ∈ x.b.2, 1 ≤ n ∧ n ≤ 99999
  a : ∀ n ∈ x.a.2, 1 ≤ n ∧ n ≤ 99999
  bl : x.b.2.length ≤ 99999
  al : x.a.2.length ≤ 99999
theorem tr4_ok {nr nd : Nat} {p : P4} (ok : Ok4 nr nd p) {x : Bu4} (h : x ∈ tr4 p) : OkB x := by
  obtain ⟨⟨-, h1, h2⟩, -⟩ := mem_tr4.1 h
  have hl : ∀ n ∈ ln4 p, 1 ≤ n ∧ n ≤ 99999 := fun n hn => by have := ups_mem.1 hn; have := ok.g; omega
  have hln : (ln4 p).length ≤ 99999 := by rw [ln4_len]; have := ok.g; omega
  have hle : ∀ wh g, g ∈ gr4 p wh x.u → g.2.length ≤ 99999 := fun wh g hg => by rw [(mem_gr4.1 hg).2]; exact Nat.le_trans (List.length_filter_le _ _) hln
  exact ⟨gr4_ne h1, gr4_ne h2, fun n hn => hl n ((gr4_mem h1).1 hn).1, fun n hn => hl n ((gr4_mem h2).1 hn).1, hle _ _ h1, hle _ _ h2⟩
theorem iAt_mem {l : List Int} {k : Nat} (h : k < l.length) : iAt l k ∈ l := by unfold iAt; rw [List.getD_eq_getElem?_getD, List.getElem?_eq_getElem h]; exact List.getElem_mem h
theorem fr4_mem {l : List Int} (h : l ≠ []) : fr4 l ∈ l := iAt_mem (List.length_pos_iff.2 h)
theorem la4_mem {l : List Int} (h : l ≠ []) : la4 l ∈ l := iAt_mem (by have := List.length_pos_iff.2 h; omega)

end Go.Proofs.Ytglpgcgidkdkiaa

namespace Go.Proofs.Ytglpgcgidkdkiaa
open Go.RowKit
open Go.Sort (grow)
set_option linter.unusedVariables false
set_option linter.unusedSimpArgs false

/-- what Stretch returns -/
def st4 (p : P4) : Sp := en4 (ol4 p true) (ol4 p true).length
theorem ol4_ok {p : P4} {is : Bool} (hr : p.rods.length ≤ 40) (hd : p.res.length ≤ 40) : ∀ x ∈ ol4 p is, OkB x := by
  intro x hx
  unfold ol4 at hx
  cases h : ck4 p
  · rw [h] at hx; simp at hx
  cases is
  · simp at hx
  rw [h] at hx
  simp only [Bool.and_self, cond_true] at hx
  exact tr4_ok (ok4_of h rfl rfl) hx
theorem ol4_len {p : P4} {is : Bool} (hn : ck4 p = true → (tr4 p).length ≤ 90000) : (ol4 p is).length ≤ 90000 := by
  unfold ol4
  cases h : ck4 p <;> cases is <;> first | exact hn h | exact Nat.zero_le _

end Go.Proofs.Ytglpgcgidkdkiaa

namespace Go.Proofs.Ytglpgcgidkdkiaa
open Go.RowKit
open Go.Sort (grow)
set_option linter.unusedVariables false
set_option linter.unusedSimpArgs false

/-- the stretch is at most a part of the length before -/
def is4 (pt b a : Int) : Bool := decide (1000 * (a - b) ≤ pt * b)
/-- of some truth of a bundle; of all of them -/
def so4 (pt : Int) (x : Bu4) : Bool := is4 pt (la4 x.b.2) (fr4 x.a.2)
def su4 (pt : Int) (x : Bu4) : Bool := is4 pt (fr4 x.b.2) (la4 x.a.2)
def soB (l : List Bu4) (pt : Int) (k : Nat) : Bool := (l.take k).any (so4 pt)
def noB (l : List Bu4) (pt : Int) (k : Nat) : Bool := (l.take k).any fun x => !su4 pt x
def hd4 (l : List Bu4) (pt : Int) : Int := bif noB l pt l.length then (bif soB l pt l.length then 3 else 2) else 1
theorem soB_succ (pt : Int) {l : List Bu4} {k : Nat} {x : Bu4} (h : l[k]? = some x) : soB l pt (k + 1) = (soB l pt k || so4 pt x) := by
  unfold soB
  rw [List.take_add_one, h, List.any_append]
  simp
theorem noB_succ (pt : Int) {l : List Bu4} {k : Nat} {x : Bu4} (h : l[k]? = some x) : noB l pt (k + 1) = (noB l pt k || !su4 pt x) := by
  unfold noB
  rw [List.take_add_one, h, List.any_append]
  simp

end Go.Proofs.Ytglpgcgidkdkiaa

namespace Go.Proofs.Ytglpgcgidkdkiaa
open Go.RowKit
open Go.Sort (grow)
set_option linter.unusedVariables false
set_option linter.unusedSimpArgs false

theorem op4_ol {p : P4} {is : Bool} (h : op4 p is = 0) : is = true ∧ ck4 p = true ∧ ol4 p is = tr4 p ∧ tr4 p ≠ [] := by
  unfold op4 at h
  unfold ol4
  cases hc : ck4 p <;> rw [hc] at h
  · simp at h
  cases is
  · simp at h
  cases ht : tr4 p with
  | nil => rw [ht] at h; simp at h
  | cons a l => simp
/-- behind the store of the bench's cells -/
theorem far6 {B0 base n : Nat} {w : World} {A : Option Addr} {hs : List Hb} {xs : List Bu4} (h : BsAt4 B0 base w A n hs xs) {g : Nat} (h1 : B0 ≤ g) (h2 : g < base) (u0 u1 u2 u3 u4 u5 : Value) :
    BsAt4 B0 base ((((((w.setCell ⟨g, 0, none⟩ u0).setCell ⟨g, 1, none⟩ u1).setCell ⟨g, 2, none⟩ u2).setCell ⟨g, 3, none⟩ u3).setCell ⟨g, 4, none⟩ u4).setCell ⟨g, 5, none⟩ u5) A n hs xs :=
  (((((h.far (p := ⟨g, 0, none⟩) h1 h2 u0).far (p := ⟨g, 1, none⟩) h1 h2 u1).far (p := ⟨g, 2, none⟩) h1 h2 u2).far (p := ⟨g, 3, none⟩) h1 h2 u3).far (p := ⟨g, 4, none⟩) h1 h2 u4).far (p := ⟨g, 5, none⟩) h1 h2 u5
theorem cell6 {w : World} {g b j : Nat} {u0 u1 u2 u3 u4 u5 : Value} (h : b ≠ g) :
    ((((((w.setCell ⟨g, 0, none⟩ u0).setCell ⟨g, 1, none⟩ u1).setCell ⟨g, 2, none⟩ u2).setCell ⟨g, 3, none⟩ u3).setCell ⟨g, 4, none⟩ u4).setCell ⟨g, 5, none⟩ u5).cell? ⟨b, j, none⟩ = w.cell? ⟨b, j, none⟩ := by
  have e : ∀ (w : World) (i : Nat) (u : Value), (w.setCell ⟨g, i, none⟩ u).cell? ⟨b, j, none⟩ = w.cell? ⟨b, j, none⟩ := fun w i u => World.cell?_setCell_other _ _ _ _ (by intro h'; simp only [Addr.mk.injEq] at h'; omega)
  rw [e, e, e, e, e, e]
theorem set6 {w : World} {B g : Nat} {u0 u1 u2 u3 u4 u5 : Value} (h : B ≤ g) :
    Below B w ((((((w.setCell ⟨g, 0, none⟩ u0).setCell ⟨g, 1, none⟩ u1).setCell ⟨g, 2, none⟩ u2).setCell ⟨g, 3, none⟩ u3).setCell ⟨g, 4, none⟩ u4).setCell ⟨g, 5, none⟩ u5) :=
  (((((((Below.refl _ _).setCell h _).setCell h _).setCell h _).setCell h _).setCell h _).setCell h _)
def hds4 (p : P4) (pt : Int) : Int := bif op4 p (wn pt 0 1000) == 0 then hd4 (tr4 p) pt else 0

end Go.Proofs.Ytglpgcgidkdkiaa

namespace Go.Proofs.Ytglpgcgidkdkiaa
open Go.RowKit
open Go.Sort (grow)
set_option linter.unusedVariables false
set_option linter.unusedSimpArgs false

def bst4 (l : List Bu4) : Option Nat := (List.range 1001).find? fun k => hd4 l (k : Nat) == 1
def bev4 (p : P4) : Int := bif op4 p true == 0 then ((bst4 (tr4 p)).map fun k => (k : Int)).getD 0 else 0
def bee4 (p : P4) : Int := bif op4 p true == 0 then (bif (bst4 (tr4 p)).isSome then 0 else 3) else op4 p true
theorem bst4_some {l : List Bu4} {k : Nat} (hk : k < 1001) (h1 : hd4 l k = 1) (h0 : ∀ j : Nat, j < k → hd4 l j ≠ 1) : bst4 l = some k := by
  unfold bst4
  rw [List.find?_eq_some_iff_append]
  refine ⟨by simpa using h1, List.range k, (List.range (1000 - k)).map (· + (k + 1)), ?_, ?_⟩
  · rw [show 1001 = k + ((1000 - k) + 1) by omega, List.range_add, List.range_succ_eq_map]
    simp [Function.comp_def]
    intro a _
    omega
  · intro a ha
    have := h0 a (List.mem_range.1 ha)
    simpa using this
theorem bst4_none {l : List Bu4} (h0 : ∀ j : Nat, j < 1001 → hd4 l j ≠ 1) : bst4 l = none := by
  unfold bst4
  rw [List.find?_eq_none]
  intro a ha
  have := h0 a (List.mem_range.1 ha)
  simpa using this

end Go.Proofs.Ytglpgcgidkdkiaa
