/- Strange of stretch (layer 4): the readings that are right in no truth; Small functions of the specification and of the statements (layer 4): In, subset, IsRight, Wrongs, Held; A truth of layer 4 as the specification has it, and what the answers say of it; TopMeasured, the plain part of chapter 04: the lengths that a pull leaves. -/
import Derived.Test.YtcbeiadimchknaaGreatQm21
import Derived.Deep.DrawnRows
import Derived.Deep.DeepCutAuto
import Derived.Handy
import Derived.WalkMore
import Derived.Shelf.Abstract
import Derived.Laws.EntriesVeiled
import Derived.Test.YtcbeiadimchknaaGreatQm25
import Derived.Test.YtcbeiadimchknaaGreatQm20
import Derived.Test.YtcbeiadimchknaaGreatQm22
import Derived.Test.YtcbeiadimchknaaGreatQm24
namespace Go.Proofs.YtcbeiadimchknaaGreat
open Go.RowKit
open Go.Sort (grow)
set_option linter.unusedVariables false
set_option linter.unusedSimpArgs false

/-- a bundle in some truth of which reading x is right -/
def sgB4 (p : P4) (x : Re4) (t : Bu4) : Bool := (sd4 x.wh t).any fun n => rt4 p.ir (roAt p.rods x.rd.toNat).gr x n (t.u.at_ x.rd.toNat)
def sgA4 (p : P4) (l : List Bu4) (k : Nat) : Bool := l.any (sgB4 p (reAt p.res k))
def sgL4 (f : Nat → Bool) (k : Nat) : List Int := ((List.range k).filter fun i => !f i).map fun (i : Nat) => (i : Int)
theorem sgL4_len (f : Nat → Bool) (k : Nat) : (sgL4 f k).length ≤ k := by
  unfold sgL4
  rw [List.length_map]
  exact Nat.le_trans (List.length_filter_le _ _) (by simp)
theorem sgL4_yes {f : Nat → Bool} {k : Nat} (h : f k = true) : sgL4 f (k + 1) = sgL4 f k := by
  unfold sgL4
  rw [List.range_succ, List.filter_append, List.map_append]; simp [h]
theorem sgL4_no {f : Nat → Bool} {k : Nat} (h : f k = false) : sgL4 f (k + 1) = sgL4 f k ++ [(k : Int)] := by
  unfold sgL4
  rw [List.range_succ, List.filter_append, List.map_append]; simp [h]
/-- what Strange returns -/
def sgs4 (p : P4) : List Int := bif op4 p true == 0 then sgL4 (sgA4 p (tr4 p)) p.res.length else []
theorem okx_of {nr nd : Nat} {p : P4} (ok : Ok4 nr nd p) {k : Nat} (hk : k < nd) : OkX nr (reAt p.res k) := by
  have h := ok.re k hk
  exact ⟨h.2.1, h.2.2.1, h.2.2.2.1, h.2.2.2.2.1, h.2.2.2.2.2⟩
theorem any_nat4 {l : List Int} {f : Int → Bool} : anyN l.length (fun k => f (iAt l k)) = l.any f := by
  rw [Bool.eq_iff_iff, List.any_eq_true]
  constructor
  · intro h
    apply Classical.byContradiction
    intro hn
    rw [anyN_no fun k hk => by
      cases e : f (iAt l k)
      · rfl
      · exact absurd ⟨_, iAt_mem hk, e⟩ hn] at h
    cases h
  · rintro ⟨x, hx, h⟩
    obtain ⟨i, hi, e⟩ := List.getElem_of_mem hx
    refine anyN_yes hi ?_
    show f (iAt l i) = true
    unfold iAt
    rw [List.getD_eq_getElem?_getD, List.getElem?_eq_getElem hi, Option.getD_some, e]
    exact h
set_option maxHeartbeats 400000 in
theorem indexFuncI4_c (A : Option Addr) (n c g : Nat) (fst cap : Array Value) (xs : List Int) (p : Nat → Bool) (w : World) (hn : n ≤ 100000) (HX : IntsAt w A n xs)
    (HE : ∀ args w, (callFunc g args).run Tryz.prog w = .ok (.enter g args) w)
    (HF : ∀ k, k < n → ∀ w', Below w.heap.size w w' → Calls Tryz.prog g (fst.push (.int .i64 (iAt xs k)) ++ cap) w' fun e w'' => e = .returned (.bool (p k)) ∧ Below w'.heap.size w' w'') :
    Calls Tryz.prog 64 #[.slice A n c, .func (.func g) fst cap] w fun e w' => e = .returned (.int .i64 (idxN n p)) ∧ Below w.heap.size w w' := by
  have HFI := Lib.hid HF
  have HXI := Lib.hid HX
  clear HF HX
  go_enter Tryz.func64, Tryz.ntmps64
  go_wp2
  go_loopw [8] (fun i (wr : World) => ∃ k : Nat, k ≤ n ∧ i = .int .i64 k ∧ Hid (∀ j, j < k → p j = false) ∧ Below w.heap.size w wr) (fun i _ => n - (intOf i).toNat)
  case atStart => exact ⟨0, by omega, rfl, fun j hj => absurd hj (by omega), Below.refl _ _⟩
  case round =>
    obtain ⟨k, hk, rfl, H1, hb⟩ := hrel
    have zb := hb.size
    by_cases hlt : k < n
    · obtain ⟨bp, op, rfl, hbp, x0⟩ := (HXI.out.later hb).get hlt
      go_wp2_with fail
      refine (HFI.out k hlt _ hb).mono ?_
      (rintro e w1 ⟨rfl, hb1⟩; obtain ⟨hc1, hf1⟩ := bcell hb1; have zs1 := hb1.size; (try simp at zs1))
      go_wp2
      all_goals first
        | (go_roundw
           case rel => exact ⟨k + 1, by omega, by go_num, fun j hj => by
             rcases Nat.lt_succ_iff_lt_or_eq.1 hj with h | rfl
             · exact H1.out j h
             · rename_i h; simpa using h, by (repeat first | with_reducible assumption | with_reducible exact Below.refl _ _ | refine below_drewN ?_ _ | refine Below.drew ?_ | refine Below.alloc ?_ (by first | omega | (with_reducible exact Below.size (by assumption)) | (simp; done) | (simp; omega)) _ | refine Below.setCell ?_ (by first | omega | (with_reducible exact Below.size (by assumption)) | (simp; done) | (simp; omega)) _ | refine below_step (by assumption) (by first | omega | (with_reducible exact Below.size (by assumption)) | (simp; done) | (simp; omega)) ?_)⟩
           case measure => simp [intOf]; omega)
        | (go_ret
           rename_i h
           exact ⟨ret_int (idxN_some hlt (by simpa using h) H1.out).symm, by (repeat first | with_reducible assumption | with_reducible exact Below.refl _ _ | refine below_drewN ?_ _ | refine Below.drew ?_ | refine Below.alloc ?_ (by first | omega | (with_reducible exact Below.size (by assumption)) | (simp; done) | (simp; omega)) _ | refine Below.setCell ?_ (by first | omega | (with_reducible exact Below.size (by assumption)) | (simp; done) | (simp; omega)) _ | refine below_step (by assumption) (by first | omega | (with_reducible exact Below.size (by assumption)) | (simp; done) | (simp; omega)) ?_)⟩)
    · obtain rfl : n = k := by omega
      go_wp2
      go_ret
      exact ⟨ret_int (idxN_none H1.out).symm, by (repeat first | with_reducible assumption | with_reducible exact Below.refl _ _ | refine below_drewN ?_ _ | refine Below.drew ?_ | refine Below.alloc ?_ (by first | omega | (with_reducible exact Below.size (by assumption)) | (simp; done) | (simp; omega)) _ | refine Below.setCell ?_ (by first | omega | (with_reducible exact Below.size (by assumption)) | (simp; done) | (simp; omega)) _ | refine below_step (by assumption) (by first | omega | (with_reducible exact Below.size (by assumption)) | (simp; done) | (simp; omega)) ?_)⟩
set_option maxHeartbeats 400000 in
theorem containsFuncI4_c (A : Option Addr) (n c g : Nat) (fst cap : Array Value) (xs : List Int) (p : Nat → Bool) (w : World) (hn : n ≤ 100000) (HX : IntsAt w A n xs)
    (HE : ∀ args w, (callFunc g args).run Tryz.prog w = .ok (.enter g args) w)
    (HF : ∀ k, k < n → ∀ w', Below w.heap.size w w' → Calls Tryz.prog g (fst.push (.int .i64 (iAt xs k)) ++ cap) w' fun e w'' => e = .returned (.bool (p k)) ∧ Below w'.heap.size w' w'') :
    Calls Tryz.prog 33 #[.slice A n c, .func (.func g) fst cap] w fun e w' => e = .returned (.bool (anyN n p)) ∧ Below w.heap.size w w' := by
  have HC := Lib.hid (indexFuncI4_c A n c g fst cap xs p w hn HX HE HF)
  clear HF HX
  go_enter Tryz.func33, Tryz.ntmps33
  go_wp2_with fail
  refine HC.out.mono ?_
  (rintro e w1 ⟨rfl, hb1⟩; obtain ⟨hc1, hf1⟩ := bcell hb1; have zs1 := hb1.size; (try simp at zs1))
  go_wp2
  go_ret
  exact ⟨ret_bool idxN_ge, by (repeat first | with_reducible assumption | with_reducible exact Below.refl _ _ | refine below_drewN ?_ _ | refine Below.drew ?_ | refine Below.alloc ?_ (by first | omega | (with_reducible exact Below.size (by assumption)) | (simp; done) | (simp; omega)) _ | refine Below.setCell ?_ (by first | omega | (with_reducible exact Below.size (by assumption)) | (simp; done) | (simp; omega)) _ | refine below_step (by assumption) (by first | omega | (with_reducible exact Below.size (by assumption)) | (simp; done) | (simp; omega)) ?_)⟩

end Go.Proofs.YtcbeiadimchknaaGreat

namespace Go.Proofs.YtcbeiadimchknaaGreat
open Go.RowKit
open Go.Sort (grow)
set_option linter.unusedVariables false
set_option linter.unusedSimpArgs false

theorem run_max24 {P : Program} {w : World} (ts : Array TypeId) (t : TypeId) (x y : Int) : (Builtin.max_ ts t #[.int .i64 x, .int .i64 y]).run P w = .ok (.int .i64 (max x y)) w := by
  simp [Builtin.max_, Builtin.max2]
  omega
attribute [local go_sem high] run_max24
/-- a slice of numbers contains one -/
def ic4 (xs : List Int) (n : Nat) (x : Int) : Bool := anyN n fun k => iAt xs k == x
theorem ic4_mem {xs : List Int} {x : Int} : ic4 xs xs.length x = true ↔ x ∈ xs := by
  unfold ic4
  rw [any_nat4 (f := fun y => y == x), List.any_eq_true]
  constructor
  · rintro ⟨y, hy, h⟩; rw [← (by simpa using h : y = x)]; exact hy
  · intro h; exact ⟨x, h, by simp⟩
set_option maxHeartbeats 400000 in
theorem refIn4_c (A : Option Addr) (n c : Nat) (x : Int) (xs : List Int) (w : World) (hn : n ≤ 100000) (HX : IntsAt w A n xs) :
    Calls Tryz.prog 9 #[.slice A n c, .int .i64 x] w fun e w' => e = .returned (.bool (ic4 xs n x)) ∧ w = w' := by
  unfold ic4
  go_enter Tryz.func9, Tryz.ntmps9
  go_wp2
  go_loopw [5] (fun i (wr : World) => ∃ k : Nat, k ≤ n ∧ i = .int .i64 k ∧ Hid (∀ j, j < k → (iAt xs j == x) = false) ∧ wr = w) (fun i _ => n - (intOf i).toNat)
  case atStart => exact ⟨0, by omega, rfl, fun j hj => absurd hj (by omega), rfl⟩
  case round =>
    obtain ⟨k, hk, rfl, H, rfl⟩ := hrel
    by_cases hlt : k < n
    · obtain ⟨b, o, rfl, hb, x0⟩ := HX.get hlt
      have hB : decide ((k : Int) < n) = true := by simp; omega
      cases e1 : (iAt xs k == x)
      · go_wp2
        go_roundw
        case rel => exact ⟨k + 1, by omega, by go_num, fun j hj => by
          rcases Nat.lt_succ_iff_lt_or_eq.1 hj with h | rfl
          · exact H.out j h
          · exact e1, trivial⟩
        case measure => simp [intOf]; omega
      · have hA := anyN_yes (p := fun k => iAt xs k == x) hlt e1
        go_wp2
        go_ret
        exact ⟨ret_bool hA.symm, rfl⟩
    · obtain rfl : n = k := by omega
      have hA := anyN_no (p := fun k => iAt xs k == x) H.out
      have hB : decide (((n : Nat) : Int) < n) = false := by simp
      clear H
      go_wp2
      go_ret
      exact ⟨ret_bool hA.symm, rfl⟩
/-- one slice of numbers lies within another -/
def sub4 (xs ys : List Int) : Bool := decide (xs.length ≤ ys.length) && (decide (ys.length ≤ 400) && allN xs.length fun k => ic4 ys ys.length (iAt xs k))
theorem sub4_true {xs ys : List Int} : sub4 xs ys = true ↔ xs.length ≤ ys.length ∧ ys.length ≤ 400 ∧ ∀ x ∈ xs, x ∈ ys := by
  unfold sub4
  simp only [Bool.and_eq_true, decide_eq_true_eq]
  rw [allN_iff]
  constructor
  · rintro ⟨h1, h2, h3⟩
    refine ⟨h1, h2, fun x hx => ?_⟩
    obtain ⟨i, hi, e⟩ := List.getElem_of_mem hx
    have := ic4_mem.1 (h3 i hi)
    unfold iAt at this
    rw [List.getD_eq_getElem?_getD, List.getElem?_eq_getElem hi, Option.getD_some, e] at this
    exact this
  · rintro ⟨h1, h2, h3⟩
    exact ⟨h1, h2, fun k hk => ic4_mem.2 (h3 _ (iAt_mem hk))⟩
/-- how many of the first k are not so -/
def cw4 (f : Nat → Bool) (k : Nat) : Nat := ((List.range k).filter fun j => !f j).length
theorem cw4_succ {f : Nat → Bool} {k : Nat} : cw4 f (k + 1) = cw4 f k + (bif f k then 0 else 1) := by
  unfold cw4
  rw [List.range_succ, List.filter_append, List.length_append]
  cases h : f k <;> simp [h]
theorem cw4_le {f : Nat → Bool} {k : Nat} : cw4 f k ≤ k := by
  unfold cw4
  exact Nat.le_trans (List.length_filter_le _ _) (by simp)
/-- reading j is right with some lengths -/
def rgT4 (p : P4) (us : List Int) (bb aa : Int) (j : Nat) : Bool := rt4 p.ir (roAt p.rods (reAt p.res j).rd.toNat).gr (reAt p.res j) (if (reAt p.res j).wh = 2 then aa else bb) (iAt us (reAt p.res j).rd.toNat)

end Go.Proofs.YtcbeiadimchknaaGreat

namespace Go.Proofs.YtcbeiadimchknaaGreat
open Go.RowKit
open Go.Sort (grow)
set_option linter.unusedVariables false
set_option linter.unusedSimpArgs false

/-- lengths of the rods out of a list -/
def uT4 (us : List Int) : W4 := ⟨iAt us 0, iAt us 1, iAt us 2, iAt us 3⟩
theorem uT4_at {us : List Int} {k : Nat} (h : k ≤ 3) : (uT4 us).at_ k = iAt us k := by
  match k, h with
  | 0, _ => rfl
  | 1, _ => rfl
  | 2, _ => rfl
  | 3, _ => rfl
/-- lengths are a truth -/
def isT4 (p : P4) (us : List Int) (b a : Int) : Bool :=
  wn b p.glo p.ghi && (wn a p.glo p.ghi && (us.length == p.rods.length && (allN us.length (fun k => wn (iAt us k) ((roAt p.rods k).lg - (roAt p.rods k).we) (roAt p.rods k).lg) && decide ((cw4 (rgT4 p us b a) p.res.length : Int) ≤ p.wr))))
theorem cw4_wk {p : P4} {u : W4} {b a : Int} (h : ∀ k, k < p.res.length → (reAt p.res k).wh = 1 ∨ (reAt p.res k).wh = 2) : ∀ k, k ≤ p.res.length → cw4 (fun j => rg4 p u (if (reAt p.res j).wh = 2 then a else b) j) k = wk4 p 1 u b k + wk4 p 2 u a k
  | 0, _ => rfl
  | k + 1, hk => by
    have ih := cw4_wk (u := u) (b := b) (a := a) h k (by omega)
    rw [cw4_succ, wk4_succ, wk4_succ, ih]
    rcases h k (by omega) with e | e
    · rw [e]
      simp
      omega
    · rw [e]
      simp
      omega
theorem rgT4_eq {nr nd : Nat} {p : P4} (ok : Ok4 nr nd p) {us : List Int} {b a : Int} {j : Nat} (hj : j < nd) : rgT4 p us b a j = rg4 p (uT4 us) (if (reAt p.res j).wh = 2 then a else b) j := by
  have h1 := (ok.re j hj).2.1
  have h2 := ok.nr4
  unfold rgT4 rg4
  rw [uT4_at (by omega)]
theorem cw4_congr {f g : Nat → Bool} : ∀ {k : Nat}, (∀ j, j < k → f j = g j) → cw4 f k = cw4 g k
  | 0, _ => rfl
  | k + 1, h => by
    rw [cw4_succ, cw4_succ, cw4_congr (fun j hj => h j (by omega)), h k (by omega)]
theorem cw4_wr {nr nd : Nat} {p : P4} (ok : Ok4 nr nd p) {us : List Int} {b a : Int} : cw4 (rgT4 p us b a) nd = wr4 p 1 (uT4 us) b + wr4 p 2 (uT4 us) a := by
  rw [cw4_congr (fun j hj => rgT4_eq ok hj)]
  have := cw4_wk (p := p) (u := uT4 us) (b := b) (a := a) (fun k hk => (ok.re k (by rw [← ok.ld]; exact hk)).1) p.res.length (Nat.le_refl _)
  rw [ok.ld] at this
  unfold wr4
  rw [ok.ld]
  exact this
theorem isT4_iff {nr nd : Nat} {p : P4} (ok : Ok4 nr nd p) {us : List Int} {b a : Int} : isT4 p us b a = true ↔ us.length = nr ∧ Tr4 p (uT4 us) b a := by
  unfold isT4 Tr4
  simp only [Bool.and_eq_true, wn_true, beq_iff_eq, decide_eq_true_eq, allN_iff]
  rw [mem_ws4 (by rw [ok.lr]; exact ok.nr4), show ln4 p = ups p.glo p.ghi from rfl, ups_mem, ups_mem, ok.ld, ok.lr, cw4_wr ok]
  have h4 := ok.nr4
  constructor
  · rintro ⟨h1, h2, h3, h5, h6⟩
    refine ⟨h3, ⟨fun j hj => ?_, fun j hj hj' => ?_⟩, h1, h2, h6⟩
    · rw [uT4_at (by omega)]
      exact h5 j (by omega)
    · rw [uT4_at hj]
      unfold iAt
      rw [List.getD_eq_getElem?_getD, List.getElem?_eq_none (by omega)]
      rfl
  · rintro ⟨h3, ⟨h5, -⟩, h1, h2, h6⟩
    refine ⟨h1, h2, h3, fun k hk => ?_, h6⟩
    have := h5 k (by omega)
    rw [uT4_at (by omega)] at this
    exact this
theorem lgs4_eq {p : P4} {wh : Int} (hop : op4 p true = 0) (hw : when4 wh = true) : lgs4 p wh = lg4 p (tr4 p) wh := by
  unfold lgs4
  rw [hw, hop]; rfl
theorem lg4_len {p : P4} {l : List Bu4} {wh : Int} (h : p.ghi - p.glo ≤ 8) : (lg4 p l wh).length ≤ 9 := by
  unfold lg4
  refine Nat.le_trans (List.length_filter_le _ _) ?_
  rw [ln4_len]
  omega
theorem rl4_in {nr nd : Nat} {p : P4} (ok : Ok4 nr nd p) {q : Nat} (hq : q < nr) {n : Int} (h : n ∈ rl4 (tr4 p) q) : (roAt p.rods q).lg - (roAt p.rods q).we ≤ n ∧ n ≤ (roAt p.rods q).lg := by
  obtain ⟨-, u, b, a, ht, rfl⟩ := mem_rl4.1 h
  exact ((mem_ws4 (by rw [ok.lr]; exact ok.nr4)).1 ht.1).1 q (by rw [ok.lr]; exact hq)
theorem rl4_len {nr nd : Nat} {p : P4} (ok : Ok4 nr nd p) {q : Nat} (hq : q < nr) : (rl4 (tr4 p) q).length ≤ 10 := by
  have h1 := nodup_le4 (rl4 (tr4 p) q) (ups ((roAt p.rods q).lg - (roAt p.rods q).we) (roAt p.rods q).lg) (pair_nodup4 rl4_pair) (fun x hx => ups_mem.2 (rl4_in ok hq hx))
  rw [ups_len] at h1
  have := (ok.ro q hq).2.1
  omega
theorem rl4_of {nr nd : Nat} {p : P4} (ok : Ok4 nr nd p) {q : Nat} (hq : q < nr) {u : W4} {b a : Int} (ht : Tr4 p u b a) : u.at_ q ∈ rl4 (tr4 p) q := by
  have h1 := ((mem_ws4 (by rw [ok.lr]; exact ok.nr4)).1 ht.1).1 q (by rw [ok.lr]; exact hq)
  have h2 := ok.ro q hq
  exact mem_rl4.2 ⟨by omega, u, b, a, ht, rfl⟩
theorem rds4_eq {nr nd : Nat} {p : P4} (ok : Ok4 nr nd p) (hop : op4 p true = 0) {q : Nat} (hq : q < nr) : rds4 p (q : Int) = rl4 (tr4 p) q ∧ op4 p (wn (q : Int) 0 ((p.rods.length : Int) - 1)) = 0 := by
  have h1 : wn (q : Int) 0 ((p.rods.length : Int) - 1) = true := wn_true.2 (by rw [ok.lr]; omega)
  unfold rds4
  rw [h1, hop]
  exact ⟨by simp, rfl⟩
/-- the least number of wrong readings -/
theorem few4_le {nr nd : Nat} {p : P4} (hc : ck4 p = true) {u : W4} {b a : Int} (hu : u ∈ ws4 p) (hb : b ∈ ln4 p) (ha : a ∈ ln4 p) : 0 ≤ few4 p ∧ few4 p ≤ ((wr4 p 1 u b + wr4 p 2 u a : Nat) : Int) := by
  obtain ⟨g, hg, -, hg1⟩ := gr4_of (wh := 1) (u := u) hb
  obtain ⟨h, hh, -, hh1⟩ := gr4_of (wh := 2) (u := u) ha
  obtain ⟨i, hi, e⟩ := List.getElem_of_mem (mem_bs4.2 ⟨hu, hg, hh⟩ : (⟨u, g, h⟩ : Bu4) ∈ bs4 p)
  have := fwk4_mem (n := p.res.length) (l := bs4 p) (List.getElem?_eq_getElem hi) (k := (bs4 p).length) hi (Nat.le_refl _)
  rw [e] at this
  simp only at this
  unfold few4
  rw [hc]
  simp only [cond_true]
  omega
/-- a reading of Strange is right in no truth -/
theorem sgA4_no {p : P4} {k : Nat} (h : sgA4 p (tr4 p) k = false) {u : W4} {b a : Int} (ht : Tr4 p u b a) : rg4 p u (if (reAt p.res k).wh = 2 then a else b) k = false := by
  obtain ⟨x, hx, rfl, hb, ha⟩ := tr4_iff.1 ht
  unfold sgA4 at h
  have h1 := List.any_eq_false.1 h x hx
  unfold sgB4 at h1
  rw [Bool.not_eq_true, List.any_eq_false] at h1
  have h2 := h1 (if (reAt p.res k).wh = 2 then a else b) (by
    unfold sd4
    split
    · exact ha
    · exact hb)
  unfold rg4
  simpa using h2
theorem sgA4_yes {p : P4} {k : Nat} (h : sgA4 p (tr4 p) k = true) : ∃ u b a, Tr4 p u b a ∧ rg4 p u (if (reAt p.res k).wh = 2 then a else b) k = true := by
  unfold sgA4 at h
  obtain ⟨x, hx, h1⟩ := List.any_eq_true.1 h
  unfold sgB4 at h1
  obtain ⟨n, hn, h2⟩ := List.any_eq_true.1 h1
  have e := tr4_ends hx
  obtain ⟨⟨-, g1, g2⟩, -⟩ := mem_tr4.1 hx
  unfold sd4 at hn
  by_cases hw : (reAt p.res k).wh = 2
  · rw [if_pos hw] at hn
    exact ⟨x.u, fr4 x.b.2, n, tr4_iff.2 ⟨x, hx, rfl, fr4_mem (gr4_ne g1), hn⟩, by rw [if_pos hw]; exact h2⟩
  · rw [if_neg hw] at hn
    exact ⟨x.u, n, fr4 x.a.2, tr4_iff.2 ⟨x, hx, rfl, hn, fr4_mem (gr4_ne g2)⟩, by rw [if_neg hw]; exact h2⟩
theorem mem_sgL4 {f : Nat → Bool} {k : Nat} {z : Int} : z ∈ sgL4 f k ↔ ∃ i, i < k ∧ f i = false ∧ z = (i : Int) := by
  unfold sgL4
  rw [List.mem_map]
  constructor
  · rintro ⟨i, hi, rfl⟩
    obtain ⟨h1, h2⟩ := List.mem_filter.1 hi
    exact ⟨i, List.mem_range.1 h1, by simpa using h2, rfl⟩
  · rintro ⟨i, h1, h2, rfl⟩
    exact ⟨i, List.mem_filter.2 ⟨List.mem_range.2 h1, by simpa using h2⟩, rfl⟩
theorem sgs4_eq {p : P4} (hop : op4 p true = 0) : sgs4 p = sgL4 (sgA4 p (tr4 p)) p.res.length := by
  unfold sgs4
  rw [hop]; rfl

end Go.Proofs.YtcbeiadimchknaaGreat

namespace Go.Proofs.YtcbeiadimchknaaGreat
open Go.RowKit
open Go.Sort (grow)
set_option linter.unusedVariables false
set_option linter.unusedSimpArgs false

theorem far4_no {p : P4} (h : far4 p = false) : p.rods.length ≤ 40 ∧ p.res.length ≤ 40 ∧ (ck4 p = true → Rdy4 p) := by
  have hr : ck4 p = true → Rdy4 p := fun hc => ready4_iff (by unfold ready4; rw [h, hc]; rfl)
  unfold far4 at h
  simp only [Bool.or_eq_false_iff, decide_eq_false_iff_not] at h
  exact ⟨by omega, by omega, hr⟩
/-- what Lengths gives: the mistake, and what is in the list -/
theorem lgs_me {p : P4} (hc : ck4 p = true) (hr : Rdy4 p) : (op4 p true = 3 ∧ lgs4 p 2 = []) ∨ (op4 p true = 0 ∧ ∃ m, (lgs4 p 2).length = m + 1 ∧ m ≤ 8 ∧ (∀ k, k < m + 1 → p.glo ≤ iAt (lgs4 p 2) k ∧ iAt (lgs4 p 2) k ≤ p.ghi) ∧ ∀ j k, j ≤ k → k < m + 1 → iAt (lgs4 p 2) j ≤ iAt (lgs4 p 2) k) := by
  unfold lgs4
  rw [show when4 2 = true from rfl]
  unfold op4
  rw [hc]
  cases ht : tr4 p with
  | nil => exact Or.inl ⟨rfl, rfl⟩
  | cons x xs =>
    refine Or.inr ⟨rfl, ?_⟩
    rw [← ht]
    simp only [cond_true]
    rw [show (bif tr4 p |>.isEmpty then (3 : Int) else 0) = 0 by rw [ht]; rfl]
    rw [show (bif (0 : Int) == 0 then lg4 p (tr4 p) 2 else []) = lg4 p (tr4 p) 2 from rfl]
    have hx : x ∈ tr4 p := by rw [ht]; exact List.mem_cons_self ..
    have hm : fr4 x.a.2 ∈ lg4 p (tr4 p) 2 := mem_lg4.2 ⟨_, _, _, (tr4_ends hx).1, by rw [if_pos rfl]⟩
    have hl := lg4_len (p := p) (l := tr4 p) (wh := 2) hr.g8
    have hp := lg4_pair (p := p) (l := tr4 p) (wh := 2)
    have hin : ∀ n ∈ lg4 p (tr4 p) 2, p.glo ≤ n ∧ n ≤ p.ghi := fun n hn => ups_mem.1 (List.mem_filter.1 hn).1
    generalize lg4 p (tr4 p) 2 = L at hm hl hp hin
    have h0 := List.length_pos_of_mem hm
    refine ⟨L.length - 1, by omega, by omega, fun k hk => hin _ (iAt_mem (by omega)), fun j k hjk hk => ?_⟩
    rcases Nat.lt_or_eq_of_le hjk with h | rfl
    · have := (List.pairwise_iff_getElem.1 hp) j k (by omega) (by omega) h
      unfold iAt
      rw [List.getD_eq_getElem?_getD, List.getD_eq_getElem?_getD, List.getElem?_eq_getElem (by omega), List.getElem?_eq_getElem (by omega)]
      exact Int.le_of_lt this
    · exact Int.le_refl _

end Go.Proofs.YtcbeiadimchknaaGreat
