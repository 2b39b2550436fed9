/- A truth of layer 4 as the specification has it, and what the answers say of it. -/
import Derived.Test.YtglpgcgidkdkiaaQc44
import Derived.Test.YtglpgcgidkdkiaaQc45
import Derived.Test.YtglpgcgidkdkiaaQc38
namespace Go.Proofs.Ytglpgcgidkdkiaa
open Go.RowKit
open Go.Sort (grow)
set_option linter.unusedVariables false
set_option linter.unusedSimpArgs false

/-- lengths of the rods out of a list -/
def uT4 (us : List Int) : W4 := ⟨iAt us 0, iAt us 1, iAt us 2, iAt us 3⟩
theorem uT4_at {us : List Int} {k : Nat} (h : k ≤ 3) : (uT4 us).at_ k = iAt us k := by
  match k, h with
  | 0, _ => rfl
  | 1, _ => rfl
  | 2, _ => rfl
  | 3, _ => rfl
/-- lengths are a truth -/
def isT4 (p : P4) (us : List Int) (b a : Int) : Bool :=
  wn b p.glo p.ghi && (wn a p.glo p.ghi && (us.length == p.rods.length && (allN us.length (fun k => wn (iAt us k) ((roAt p.rods k).lg - (roAt p.rods k).we) (roAt p.rods k).lg) && decide ((cw4 (rgT4 p us b a) p.res.length : Int) ≤ p.wr))))
theorem cw4_wk {p : P4} {u : W4} {b a : Int} (h : ∀ k, k < p.res.length → (reAt p.res k).wh = 1 ∨ (reAt p.res k).wh = 2) : ∀ k, k ≤ p.res.length → cw4 (fun j => rg4 p u (if (reAt p.res j).wh = 2 then a else b) j) k = wk4 p 1 u b k + wk4 p 2 u a k
  | 0, _ => rfl
  | k + 1, hk => by
    have ih := cw4_wk (u := u) (b := b) (a := a) h k (by omega)
    rw [cw4_succ, wk4_succ, wk4_succ, ih]
    rcases h k (by omega) with e | e
    · rw [e]
      simp
      omega
    · rw [e]
      simp
      omega
theorem rgT4_eq {nr nd : Nat} {p : P4} (ok : Ok4 nr nd p) {us : List Int} {b a : Int} {j : Nat} (hj : j < nd) : rgT4 p us b a j = rg4 p (uT4 us) (if (reAt p.res j).wh = 2 then a else b) j := by
  have h1 := (ok.re j hj).2.1
  have h2 := ok.nr4
  unfold rgT4 rg4
  rw [uT4_at (by omega)]
theorem cw4_congr {f g : Nat → Bool} : ∀ {k : Nat}, (∀ j, j < k → f j = g j) → cw4 f k = cw4 g k
  | 0, _ => rfl
  | k + 1, h => by
    rw [cw4_succ, cw4_succ, cw4_congr (fun j hj => h j (by omega)), h k (by omega)]
theorem cw4_wr {nr nd : Nat} {p : P4} (ok : Ok4 nr nd p) {us : List Int} {b a : Int} : cw4 (rgT4 p us b a) nd = wr4 p 1 (uT4 us) b + wr4 p 2 (uT4 us) a := by
  rw [cw4_congr (fun j hj => rgT4_eq ok hj)]
  have := cw4_wk (p := p) (u := uT4 us) (b := b) (a := a) (fun k hk => (ok.re k (by rw [← ok.ld]; exact hk)).1) p.res.length (Nat.le_refl _)
  rw [ok.ld] at this
  unfold wr4
  rw [ok.ld]
  exact this
theorem isT4_iff {nr nd : Nat} {p : P4} (ok : Ok4 nr nd p) {us : List Int} {b a : Int} : isT4 p us b a = true ↔ us.length = nr ∧ Tr4 p (uT4 us) b a := by
  unfold isT4 Tr4
  simp only [Bool.and_eq_true, wn_true, beq_iff_eq, decide_eq_true_eq, allN_iff]
  rw [mem_ws4 (by rw [ok.lr]; exact ok.nr4), show ln4 p = ups p.glo p.ghi from rfl, ups_mem, ups_mem, ok.ld, ok.lr, cw4_wr ok]
  have h4 := ok.nr4
  constructor
  · rintro ⟨h1, h2, h3, h5, h6⟩
    refine ⟨h3, ⟨fun j hj => ?_, fun j hj hj' => ?_⟩, h1, h2, h6⟩
    · rw [uT4_at (by omega)]
      exact h5 j (by omega)
    · rw [uT4_at hj]
      unfold iAt
      rw [List.getD_eq_getElem?_getD, List.getElem?_eq_none (by omega)]
      rfl
  · rintro ⟨h3, ⟨h5, -⟩, h1, h2, h6⟩
    refine ⟨h1, h2, h3, fun k hk => ?_, h6⟩
    have := h5 k (by omega)
    rw [uT4_at (by omega)] at this
    exact this
theorem lgs4_eq {p : P4} {wh : Int} (hop : op4 p true = 0) (hw : when4 wh = true) : lgs4 p wh = lg4 p (tr4 p) wh := by
  unfold lgs4
  rw [hw, hop]; rfl
theorem lg4_len {p : P4} {l : List Bu4} {wh : Int} (h : p.ghi - p.glo ≤ 8) : (lg4 p l wh).length ≤ 9 := by
  unfold lg4
  refine Nat.le_trans (List.length_filter_le _ _) ?_
  rw [ln4_len]
  omega
theorem rl4_in {nr nd : Nat} {p : P4} (ok : Ok4 nr nd p) {q : Nat} (hq : q < nr) {n : Int} (h : n ∈ rl4 (tr4 p) q) : (roAt p.rods q).lg - (roAt p.rods q).we ≤ n ∧ n ≤ (roAt p.rods q).lg := by
  obtain ⟨-, u, b, a, ht, rfl⟩ := mem_rl4.1 h
  exact ((mem_ws4 (by rw [ok.lr]; exact ok.nr4)).1 ht.1).1 q (by rw [ok.lr]; exact hq)
theorem rl4_len {nr nd : Nat} {p : P4} (ok : Ok4 nr nd p) {q : Nat} (hq : q < nr) : (rl4 (tr4 p) q).length ≤ 10 := by
  have h1 := nodup_le4 (rl4 (tr4 p) q) (ups ((roAt p.rods q).lg - (roAt p.rods q).we) (roAt p.rods q).lg) (pair_nodup4 rl4_pair) (fun x hx => ups_mem.2 (rl4_in ok hq hx))
  rw [ups_len] at h1
  have := (ok.ro q hq).2.1
  omega
theorem rl4_of {nr nd : Nat} {p : P4} (ok : Ok4 nr nd p) {q : Nat} (hq : q < nr) {u : W4} {b a : Int} (ht : Tr4 p u b a) : u.at_ q ∈ rl4 (tr4 p) q := by
  have h1 := ((mem_ws4 (by rw [ok.lr]; exact ok.nr4)).1 ht.1).1 q (by rw [ok.lr]; exact hq)
  have h2 := ok.ro q hq
  exact mem_rl4.2 ⟨by omega, u, b, a, ht, rfl⟩
theorem rds4_eq {nr nd : Nat} {p : P4} (ok : Ok4 nr nd p) (hop : op4 p true = 0) {q : Nat} (hq : q < nr) : rds4 p (q : Int) = rl4 (tr4 p) q ∧ op4 p (wn (q : Int) 0 ((p.rods.length : Int) - 1)) = 0 := by
  have h1 : wn (q : Int) 0 ((p.rods.length : Int) - 1) = true := wn_true.2 (by rw [ok.lr]; omega)
  unfold rds4
  rw [h1, hop]
  exact ⟨by simp, rfl⟩
/-- the least number of wrong readings -/
theorem few4_le {nr nd : Nat} {p : P4} (hc : ck4 p = true) {u : W4} {b a : Int} (hu : u ∈ ws4 p) (hb : b ∈ ln4 p) (ha : a ∈ ln4 p) : 0 ≤ few4 p ∧ few4 p ≤ ((wr4 p 1 u b + wr4 p 2 u a : Nat) : Int) := by
  obtain ⟨g, hg, -, hg1⟩ := gr4_of (wh := 1) (u := u) hb
  obtain ⟨h, hh, -, hh1⟩ := gr4_of (wh := 2) (u := u) ha
  obtain ⟨i, hi, e⟩ := List.getElem_of_mem (mem_bs4.2 ⟨hu, hg, hh⟩ : (⟨u, g, h⟩ : Bu4) ∈ bs4 p)
  have := fwk4_mem (n := p.res.length) (l := bs4 p) (List.getElem?_eq_getElem hi) (k := (bs4 p).length) hi (Nat.le_refl _)
  rw [e] at this
  simp only at this
  unfold few4
  rw [hc]
  simp only [cond_true]
  omega
/-- a reading of Strange is right in no truth -/
theorem sgA4_no {p : P4} {k : Nat} (h : sgA4 p (tr4 p) k = false) {u : W4} {b a : Int} (ht : Tr4 p u b a) : rg4 p u (if (reAt p.res k).wh = 2 then a else b) k = false := by
  obtain ⟨x, hx, rfl, hb, ha⟩ := tr4_iff.1 ht
  unfold sgA4 at h
  have h1 := List.any_eq_false.1 h x hx
  unfold sgB4 at h1
  rw [Bool.not_eq_true, List.any_eq_false] at h1
  have h2 := h1 (if (reAt p.res k).wh = 2 then a else b) (by
    unfold sd4
    split
    · exact ha
    · exact hb)
  unfold rg4
  simpa using h2
theorem sgA4_yes {p : P4} {k : Nat} (h : sgA4 p (tr4 p) k = true) : ∃ u b a, Tr4 p u b a ∧ rg4 p u (if (reAt p.res k).wh = 2 then a else b) k = true := by
  unfold sgA4 at h
  obtain ⟨x, hx, h1⟩ := List.any_eq_true.1 h
  unfold sgB4 at h1
  obtain ⟨n, hn, h2⟩ := List.any_eq_true.1 h1
  have e := tr4_ends hx
  obtain ⟨⟨-, g1, g2⟩, -⟩ := mem_tr4.1 hx
  unfold sd4 at hn
  by_cases hw : (reAt p.res k).wh = 2
  · rw [if_pos hw] at hn
    exact ⟨x.u, fr4 x.b.2, n, tr4_iff.2 ⟨x, hx, rfl, fr4_mem (gr4_ne g1), hn⟩, by rw [if_pos hw]; exact h2⟩
  · rw [if_neg hw] at hn
    exact ⟨x.u, n, fr4 x.a.2, tr4_iff.2 ⟨x, hx, rfl, hn, fr4_mem (gr4_ne g2)⟩, by rw [if_neg hw]; exact h2⟩
theorem mem_sgL4 {f : Nat → Bool} {k : Nat} {z : Int} : z ∈ sgL4 f k ↔ ∃ i, i < k ∧ f i = false ∧ z = (i : Int) := by
  unfold sgL4
  rw [List.mem_map]
  constructor
  · rintro ⟨i, hi, rfl⟩
    obtain ⟨h1, h2⟩ := List.mem_filter.1 hi
    exact ⟨i, List.mem_range.1 h1, by simpa using h2, rfl⟩
  · rintro ⟨i, h1, h2, rfl⟩
    exact ⟨i, List.mem_filter.2 ⟨List.mem_range.2 h1, by simpa using h2⟩, rfl⟩
theorem sgs4_eq {p : P4} (hop : op4 p true = 0) : sgs4 p = sgL4 (sgA4 p (tr4 p)) p.res.length := by
  unfold sgs4
  rw [hop]; rfl

end Go.Proofs.Ytglpgcgidkdkiaa
