/- What the answers of layer 4 say of the truths. -/
import Derived.Test.YtjlibgledkdfiaaPa4
namespace Go.Proofs.Ytjlibgledkdfiaa
open Go.RowKit
open Go.Sort (grow)
set_option linter.unusedVariables false

theorem pair_mem4 {l : List Int} (h : l.Pairwise (· < ·)) {y : Int} (hy : y ∈ l) : fr4 l ≤ y ∧ y ≤ la4 l := by
  obtain ⟨i, hi, e⟩ := List.getElem_of_mem hy
  have hp : 0 < l.length := by omega
  unfold fr4 la4 iAt
  rw [List.getD_eq_getElem?_getD, List.getD_eq_getElem?_getD, List.getElem?_eq_getElem hp, List.getElem?_eq_getElem (show l.length - 1 < l.length by omega)]
  simp only [Option.getD_some]
  rw [List.pairwise_iff_getElem] at h
  subst e
  constructor
  · by_cases h0 : i = 0
    · subst h0; exact Int.le_refl _
    · exact Int.le_of_lt (h 0 i hp hi (by omega))
  · by_cases h0 : i = l.length - 1
    · subst h0; exact Int.le_refl _
    · exact Int.le_of_lt (h i (l.length - 1) hi (by omega) (by omega))
theorem gr4_pair {p : P4} {wh : Int} {u : W4} {g : Nat × List Int} (h : g ∈ gr4 p wh u) : g.2.Pairwise (· < ·) := by rw [(mem_gr4.1 h).2]; exact ups_pair.filter _
theorem tr4_any {p : P4} (h : tr4 p ≠ []) : ∃ u b a, Tr4 p u b a := by
  obtain ⟨x, hx⟩ := List.exists_mem_of_ne_nil _ h
  obtain ⟨⟨-, h1, h2⟩, -⟩ := mem_tr4.1 hx
  exact ⟨x.u, fr4 x.b.2, fr4 x.a.2, tr4_iff.2 ⟨x, hx, rfl, fr4_mem (gr4_ne h1), fr4_mem (gr4_ne h2)⟩⟩
theorem tr4_ne {p : P4} {u : W4} {b a : Int} (h : Tr4 p u b a) : tr4 p ≠ [] := by
  obtain ⟨x, hx, -⟩ := tr4_iff.1 h
  intro e
  rw [e] at hx
  cases hx
/-- the ends of a bundle are truths, and all of it lies between them -/
theorem tr4_ends {p : P4} {x : Bu4} (hx : x ∈ tr4 p) : Tr4 p x.u (la4 x.b.2) (fr4 x.a.2) ∧ Tr4 p x.u (fr4 x.b.2) (la4 x.a.2) ∧ (∀ b ∈ x.b.2, fr4 x.b.2 ≤ b ∧ b ≤ la4 x.b.2) ∧ ∀ a ∈ x.a.2, fr4 x.a.2 ≤ a ∧ a ≤ la4 x.a.2 := by
  obtain ⟨⟨-, h1, h2⟩, -⟩ := mem_tr4.1 hx
  exact ⟨tr4_iff.2 ⟨x, hx, rfl, la4_mem (gr4_ne h1), fr4_mem (gr4_ne h2)⟩, tr4_iff.2 ⟨x, hx, rfl, fr4_mem (gr4_ne h1), la4_mem (gr4_ne h2)⟩, fun b hb => pair_mem4 (gr4_pair h1) hb, fun a ha => pair_mem4 (gr4_pair h2) ha⟩
theorem en4_truth {p : P4} {u : W4} {b a : Int} (h : Tr4 p u b a) : (en4 (tr4 p) (tr4 p).length).lo ≤ a - b ∧ a - b ≤ (en4 (tr4 p) (tr4 p).length).hi := by
  obtain ⟨x, hx, -, hb, ha⟩ := tr4_iff.1 h
  have h1 := (en4_all (tr4_ne h)).1 x hx
  obtain ⟨-, -, h2, h3⟩ := tr4_ends hx
  have h2 := h2 b hb
  have h3 := h3 a ha
  unfold sp4 at h1
  simp only at h1
  omega
theorem en4_hit {p : P4} (h : tr4 p ≠ []) : (∃ u b a, Tr4 p u b a ∧ (en4 (tr4 p) (tr4 p).length).lo = a - b) ∧ ∃ u b a, Tr4 p u b a ∧ (en4 (tr4 p) (tr4 p).length).hi = a - b := by
  obtain ⟨-, ⟨x, hx, e1⟩, ⟨y, hy, e2⟩⟩ := en4_all h
  exact ⟨⟨x.u, _, _, (tr4_ends hx).1, e1⟩, ⟨y.u, _, _, (tr4_ends hy).2.1, e2⟩⟩
/-- all lengths of a time -/
theorem mem_lg4 {p : P4} {wh n : Int} : n ∈ lg4 p (tr4 p) wh ↔ ∃ u b a, Tr4 p u b a ∧ n = if wh = 2 then a else b := by
  unfold lg4
  rw [List.mem_filter, List.any_eq_true]
  constructor
  · rintro ⟨-, x, hx, h⟩
    obtain ⟨⟨-, h1, h2⟩, -⟩ := mem_tr4.1 hx
    have h := List.contains_iff_mem.1 h
    unfold sd4 at h
    by_cases hw : wh = 2
    · rw [if_pos hw] at h
      exact ⟨x.u, fr4 x.b.2, n, tr4_iff.2 ⟨x, hx, rfl, fr4_mem (gr4_ne h1), h⟩, by rw [if_pos hw]⟩
    · rw [if_neg hw] at h
      exact ⟨x.u, n, fr4 x.a.2, tr4_iff.2 ⟨x, hx, rfl, h, fr4_mem (gr4_ne h2)⟩, by rw [if_neg hw]⟩
  · rintro ⟨u, b, a, ht, e⟩
    obtain ⟨x, hx, -, hb, ha⟩ := tr4_iff.1 ht
    obtain ⟨-, k1, k2, -⟩ := ht
    unfold sd4
    by_cases hw : wh = 2
    · rw [if_pos hw] at e
      subst e
      exact ⟨k2, x, hx, by rw [if_pos hw]; exact List.contains_iff_mem.2 ha⟩
    · rw [if_neg hw] at e
      subst e
      exact ⟨k1, x, hx, by rw [if_neg hw]; exact List.contains_iff_mem.2 hb⟩
theorem lg4_pair {p : P4} {l : List Bu4} {wh : Int} : (lg4 p l wh).Pairwise (· < ·) := ups_pair.filter _
/-- all lengths of a rod -/
theorem mem_rl4 {p : P4} {q : Nat} {n : Int} : n ∈ rl4 (tr4 p) q ↔ (0 ≤ n ∧ n ≤ 9999) ∧ ∃ u b a, Tr4 p u b a ∧ n = u.at_ q := by
  unfold rl4
  rw [List.mem_filter, List.any_eq_true, ups_mem]
  constructor
  · rintro ⟨h0, x, hx, h⟩
    exact ⟨h0, x.u, _, _, (tr4_ends hx).1, by simpa using h⟩
  · rintro ⟨h0, u, b, a, ht, e⟩
    obtain ⟨x, hx, rfl, -⟩ := tr4_iff.1 ht
    exact ⟨h0, x, hx, by simpa using e⟩
theorem rl4_pair {l : List Bu4} {q : Nat} : (rl4 l q).Pairwise (· < ·) := ups_pair.filter _
/-- lists that ascend and hold the same are equal -/
theorem pair_ext4 : ∀ {l m : List Int}, l.Pairwise (· < ·) → m.Pairwise (· < ·) → (∀ x, x ∈ l ↔ x ∈ m) → l = m
  | [], [], _, _, _ => rfl
  | [], y :: m, _, _, h => absurd ((h y).2 (List.mem_cons_self ..)) (by simp)
  | x :: l, [], _, _, h => absurd ((h x).1 (List.mem_cons_self ..)) (by simp)
  | x :: l, y :: m, hl, hm, h => by
    obtain ⟨h1, h2⟩ := List.pairwise_cons.1 hl
    obtain ⟨k1, k2⟩ := List.pairwise_cons.1 hm
    have e : x = y := by
      rcases List.mem_cons.1 ((h x).1 (List.mem_cons_self ..)) with e | e
      · exact e
      rcases List.mem_cons.1 ((h y).2 (List.mem_cons_self ..)) with e' | e'
      · exact e'.symm
      · have := h1 y e'; have := k1 x e; omega
    subst e
    rw [pair_ext4 h2 k2 fun z => ?_]
    constructor
    · intro hz
      rcases List.mem_cons.1 ((h z).1 (List.mem_cons_of_mem _ hz)) with e | e
      · have := h1 z hz; omega
      · exact e
    · intro hz
      rcases List.mem_cons.1 ((h z).2 (List.mem_cons_of_mem _ hz)) with e | e
      · have := k1 z hz; omega
      · exact e
/-- whether the stretch is at most a part of the length before -/
theorem is4_side {pt b b' a a' : Int} (hp : 0 ≤ pt) (hb : b ≤ b') (ha : a' ≤ a) (h : is4 pt b a = true) : is4 pt b' a' = true := by
  unfold is4 at h ⊢
  have h1 := of_decide_eq_true h
  have h2 : pt * b ≤ pt * b' := Int.mul_le_mul_of_nonneg_left hb hp
  exact decide_eq_true (by omega)
theorem hd4_yes {p : P4} {pt : Int} (hp : 0 ≤ pt) : hd4 (tr4 p) pt = 1 ↔ ∀ u b a, Tr4 p u b a → is4 pt b a = true := by
  rw [hd4_sure]
  constructor
  · intro h u b a ht
    obtain ⟨x, hx, -, hb, ha⟩ := tr4_iff.1 ht
    obtain ⟨-, -, h2, h3⟩ := tr4_ends hx
    exact is4_side hp (h2 b hb).1 (h3 a ha).2 (h x hx)
  · intro h x hx
    exact h _ _ _ (tr4_ends hx).2.1
theorem hd4_not {p : P4} {pt : Int} (hp : 0 ≤ pt) (hne : tr4 p ≠ []) : hd4 (tr4 p) pt = 2 ↔ ∀ u b a, Tr4 p u b a → is4 pt b a = false := by
  constructor
  · intro h u b a ht
    obtain ⟨x, hx, -, hb, ha⟩ := tr4_iff.1 ht
    obtain ⟨-, -, h2, h3⟩ := tr4_ends hx
    cases e : is4 pt b a
    · rfl
    · have := is4_side hp (h2 b hb).2 (h3 a ha).1 e
      have h0 : is4 pt (la4 x.b.2) (fr4 x.a.2) = false := (hd4_never h).2 x hx
      rw [h0] at this
      cases this
  · intro h
    obtain ⟨x, hx⟩ := List.exists_mem_of_ne_nil _ hne
    exact hd4_never_of ⟨x, hx, h _ _ _ (tr4_ends hx).2.1⟩ fun y hy => h _ _ _ (tr4_ends hy).1
/-- there is a truth -/
theorem op4_truth {p : P4} (hc : ck4 p = true) : op4 p true = 0 ↔ ∃ u b a, Tr4 p u b a := by
  unfold op4
  rw [hc]
  constructor
  · intro h
    cases e : tr4 p with
    | nil => rw [e] at h; simp at h
    | cons x l => exact tr4_any (by rw [e]; simp)
  · rintro ⟨u, b, a, ht⟩
    cases e : tr4 p with
    | nil => exact absurd e (tr4_ne ht)
    | cons x l => rfl
theorem op4_none {p : P4} (hc : ck4 p = true) (h : tr4 p = []) : op4 p true = 3 := by unfold op4; rw [hc, h]; rfl
/-- all readings of a time that is without wrong ones are right -/
theorem wr4_zero {p : P4} {wh : Int} {u : W4} {l : Int} (h : wr4 p wh u l = 0) {j : Nat} (hj : j < p.res.length) (hw : (reAt p.res j).wh = wh) : rg4 p u l j = true := by
  unfold wr4 wk4 at h
  have h1 := List.eq_nil_of_length_eq_zero h
  cases e : rg4 p u l j
  · have : j ∈ (List.range p.res.length).filter fun j => decide ((reAt p.res j).wh = wh) && !rg4 p u l j := List.mem_filter.2 ⟨List.mem_range.2 hj, by rw [e, decide_eq_true hw]; rfl⟩
    rw [h1] at this
    cases this
  · rfl

end Go.Proofs.Ytjlibgledkdfiaa
