/- The plain law of the parts (layer 4): what Holds and Best answer with parts one greater than the other. -/
import Derived.Test.YtcbeiadimchknaaGreatQm24
namespace Go.Proofs.YtcbeiadimchknaaGreat
open Go.RowKit
open Go.Sort (grow)
set_option linter.unusedVariables false
set_option linter.unusedSimpArgs false

theorem is4_mono {a b x y : Int} (hx : 1 ≤ x) (hab : a ≤ b) (h : is4 a x y = true) : is4 b x y = true := by
  unfold is4 at h ⊢
  have h1 := of_decide_eq_true h
  have h2 : a * x ≤ b * x := Int.mul_le_mul_of_nonneg_right hab (by omega)
  exact decide_eq_true (by omega)
theorem hd4_sure {l : List Bu4} {pt : Int} : hd4 l pt = 1 ↔ ∀ x ∈ l, su4 pt x = true := by
  unfold hd4 noB
  rw [List.take_length]
  cases e : l.any (fun x => !su4 pt x)
  · simp only [cond_false, true_iff]
    intro x hx
    have := List.any_eq_false.1 e x hx
    simpa using this
  · simp only [cond_true]
    obtain ⟨x, hx, h⟩ := List.any_eq_true.1 e
    constructor
    · intro h'
      cases hs : soB l pt l.length <;> rw [hs] at h' <;> simp at h'
    · intro h'
      rw [h' x hx] at h
      cases h
theorem hd4_never {l : List Bu4} {pt : Int} (h : hd4 l pt = 2) : (∃ x ∈ l, su4 pt x = false) ∧ ∀ x ∈ l, so4 pt x = false := by
  unfold hd4 noB soB at h
  rw [List.take_length] at h
  cases e : l.any (fun x => !su4 pt x)
  · rw [e] at h; simp at h
  · obtain ⟨x, hx, h1⟩ := List.any_eq_true.1 e
    refine ⟨⟨x, hx, by simpa using h1⟩, fun y hy => ?_⟩
    cases e2 : l.any (so4 pt)
    · have := List.any_eq_false.1 e2 y hy
      simpa using this
    · rw [e, e2] at h; simp at h
theorem hd4_never_of {l : List Bu4} {pt : Int} (h1 : ∃ x ∈ l, su4 pt x = false) (h2 : ∀ x ∈ l, so4 pt x = false) : hd4 l pt = 2 := by
  unfold hd4 noB soB
  rw [List.take_length]
  obtain ⟨x, hx, h⟩ := h1
  rw [show l.any (fun x => !su4 pt x) = true from List.any_eq_true.2 ⟨x, hx, by rw [h]; rfl⟩, show l.any (so4 pt) = false from List.any_eq_false.2 fun y hy => by rw [h2 y hy]; decide]
  rfl
theorem su4_mono {a b : Int} {x : Bu4} (hx : OkB x) (hab : a ≤ b) (h : su4 a x = true) : su4 b x = true := is4_mono (hx.b _ (fr4_mem hx.bn)).1 hab h
theorem so4_mono {a b : Int} {x : Bu4} (hx : OkB x) (hab : a ≤ b) (h : so4 a x = true) : so4 b x = true := is4_mono (hx.b _ (la4_mem hx.bn)).1 hab h
theorem hd4_up {l : List Bu4} {a b : Int} (hl : ∀ x ∈ l, OkB x) (hab : a ≤ b) (h : hd4 l a = 1) : hd4 l b = 1 :=
  hd4_sure.2 fun x hx => su4_mono (hl x hx) hab (hd4_sure.1 h x hx)
theorem hd4_down {l : List Bu4} {a b : Int} (hl : ∀ x ∈ l, OkB x) (hab : a ≤ b) (h : hd4 l b = 2) : hd4 l a = 2 := by
  obtain ⟨⟨x, hx, h1⟩, h2⟩ := hd4_never h
  refine hd4_never_of ⟨x, hx, ?_⟩ fun y hy => ?_
  · cases e : su4 a x
    · rfl
    · rw [su4_mono (hl x hx) hab e] at h1; cases h1
  · cases e : so4 a y
    · rfl
    · have h3 := h2 y hy
      rw [so4_mono (hl y hy) hab e] at h3
      cases h3
/-- the ends of the stretch: below and above all, and reached -/
theorem en4_spec {l : List Bu4} : ∀ {k : Nat}, k ≤ l.length → 0 < k →
    (∀ x ∈ l.take k, (en4 l k).lo ≤ (sp4 x).lo ∧ (sp4 x).hi ≤ (en4 l k).hi) ∧ (∃ x ∈ l.take k, (en4 l k).lo = (sp4 x).lo) ∧ ∃ x ∈ l.take k, (en4 l k).hi = (sp4 x).hi
  | 0, _, h => absurd h (by omega)
  | k + 1, hk, _ => by
    have hg : l[k]? = some (l[k]'(by omega)) := List.getElem?_eq_getElem (by omega)
    obtain ⟨y, hy⟩ : ∃ y, l[k]'(by omega) = y := ⟨_, rfl⟩
    rw [hy] at hg
    have hs := en4_succ hg
    have ht : l.take (k + 1) = l.take k ++ [y] := by rw [List.take_add_one, hg]; rfl
    rw [ht, hs]
    by_cases h0 : k = 0
    · subst h0
      rw [if_pos rfl, hl4_idem]
      simp
    · rw [if_neg h0]
      obtain ⟨h1, ⟨x1, hx1, e1⟩, ⟨x2, hx2, e2⟩⟩ := en4_spec (l := l) (k := k) (by omega) (by omega)
      unfold hl4
      refine ⟨fun x hx => ?_, ?_, ?_⟩
      · rcases List.mem_append.1 hx with hx | hx
        · have := h1 x hx
          simp only
          omega
        · obtain rfl := List.mem_singleton.1 hx
          simp only
          omega
      · simp only
        rcases Int.le_total (en4 l k).lo (sp4 y).lo with h | h
        · exact ⟨x1, List.mem_append_left _ hx1, by omega⟩
        · exact ⟨y, by simp, by omega⟩
      · simp only
        rcases Int.le_total (en4 l k).hi (sp4 y).hi with h | h
        · exact ⟨y, by simp, by omega⟩
        · exact ⟨x2, List.mem_append_left _ hx2, by omega⟩
theorem en4_all {l : List Bu4} (h : l ≠ []) :
    (∀ x ∈ l, (en4 l l.length).lo ≤ (sp4 x).lo ∧ (sp4 x).hi ≤ (en4 l l.length).hi) ∧ (∃ x ∈ l, (en4 l l.length).lo = (sp4 x).lo) ∧ ∃ x ∈ l, (en4 l l.length).hi = (sp4 x).hi := by
  have := en4_spec (l := l) (k := l.length) (Nat.le_refl _) (List.length_pos_iff.2 h)
  rwa [List.take_length] at this
theorem pair_fl {l : List Int} (h : l.Pairwise (· < ·)) (hn : l ≠ []) : fr4 l ≤ la4 l := by
  have hp := List.length_pos_iff.2 hn
  unfold fr4 la4 iAt
  rw [List.getD_eq_getElem?_getD, List.getD_eq_getElem?_getD, List.getElem?_eq_getElem hp, List.getElem?_eq_getElem (by omega)]
  simp only [Option.getD_some]
  by_cases h1 : l.length - 1 = 0
  · simp [h1]
  · exact Int.le_of_lt (List.pairwise_iff_getElem.1 h 0 (l.length - 1) hp (by omega) (by omega))
theorem tr4_fl {p : P4} {x : Bu4} (h : x ∈ tr4 p) : fr4 x.b.2 ≤ la4 x.b.2 ∧ fr4 x.a.2 ≤ la4 x.a.2 := by
  obtain ⟨⟨-, h1, h2⟩, -⟩ := mem_tr4.1 h
  have f : ∀ wh g, g ∈ gr4 p wh x.u → fr4 g.2 ≤ la4 g.2 := fun wh g hg => pair_fl (by rw [(mem_gr4.1 hg).2]; exact ups_pair.filter _) (gr4_ne hg)
  exact ⟨f _ _ h1, f _ _ h2⟩
theorem en4_sane {p : P4} (hl : ∀ x ∈ tr4 p, OkB x) (h : tr4 p ≠ []) : sane4 (en4 (tr4 p) (tr4 p).length) = true := by
  obtain ⟨h1, ⟨x, hx, e1⟩, ⟨y, hy, e2⟩⟩ := en4_all h
  have k1 := h1 x hx
  have f1 := tr4_fl hx
  have a1 := (hl x hx).a _ (fr4_mem (hl x hx).an)
  have a2 := (hl x hx).b _ (la4_mem (hl x hx).bn)
  have b1 := (hl y hy).a _ (la4_mem (hl y hy).an)
  have b2 := (hl y hy).b _ (fr4_mem (hl y hy).bn)
  unfold sp4 at k1 e1 e2
  simp only at k1 e1 e2
  unfold sane4
  simp only [Bool.and_eq_true, decide_eq_true_eq]
  omega
theorem hd4_zero {l : List Bu4} (h : l ≠ []) : hd4 l 0 = 1 ↔ (en4 l l.length).hi ≤ 0 := by
  obtain ⟨h1, -, ⟨y, hy, e2⟩⟩ := en4_all h
  rw [hd4_sure]
  have hs : ∀ x : Bu4, su4 0 x = true ↔ (sp4 x).hi ≤ 0 := fun x => by
    unfold su4 is4 sp4
    simp only [decide_eq_true_eq]
    omega
  constructor
  · intro h'
    rw [e2]
    exact (hs y).1 (h' y hy)
  · intro h' x hx
    have := (h1 x hx).2
    exact (hs x).2 (by omega)
theorem bst4_spec {l : List Bu4} {k : Nat} (h : bst4 l = some k) : k ≤ 1000 ∧ hd4 l k = 1 ∧ ∀ j : Nat, j < k → hd4 l j ≠ 1 := by
  unfold bst4 at h
  have h1 := List.find?_some h
  have h2 := List.mem_range.1 (List.mem_of_find?_eq_some h)
  refine ⟨by omega, by simpa using h1, fun j hj hh => ?_⟩
  rw [List.find?_eq_some_iff_getElem] at h
  obtain ⟨-, i, hi, e, hb⟩ := h
  simp only [List.getElem_range] at e
  subst e
  have := hb j hj
  simp [hh] at this
theorem bst4_at {l : List Bu4} (hl : ∀ x ∈ l, OkB x) {k : Nat} (h : bst4 l = some k) {a : Int} (ha : 0 ≤ a) : hd4 l a = 1 ↔ (k : Int) ≤ a := by
  obtain ⟨h1, h2, h3⟩ := bst4_spec h
  constructor
  · intro h'
    by_cases hk : (k : Int) ≤ a
    · exact hk
    · exact absurd (by rw [Int.toNat_of_nonneg ha]; exact h') (h3 a.toNat (by omega))
  · intro h'
    exact hd4_up hl h' h2
theorem bst4_no {l : List Bu4} (h : bst4 l = none) {b : Int} (hb : 0 ≤ b ∧ b ≤ 1000) : hd4 l b ≠ 1 := by
  unfold bst4 at h
  rw [List.find?_eq_none] at h
  have := h b.toNat (List.mem_range.2 (by omega))
  rw [Int.toNat_of_nonneg hb.1] at this
  simpa using this
theorem hd4_range {l : List Bu4} {pt : Int} : hd4 l pt = 1 ∨ hd4 l pt = 2 ∨ hd4 l pt = 3 := by
  unfold hd4
  cases noB l pt l.length <;> cases soB l pt l.length <;> simp

theorem pair_mem4 {l : List Int} (h : l.Pairwise (· < ·)) {y : Int} (hy : y ∈ l) : fr4 l ≤ y ∧ y ≤ la4 l := by
  obtain ⟨i, hi, e⟩ := List.getElem_of_mem hy
  have hp : 0 < l.length := by omega
  unfold fr4 la4 iAt
  rw [List.getD_eq_getElem?_getD, List.getD_eq_getElem?_getD, List.getElem?_eq_getElem hp, List.getElem?_eq_getElem (show l.length - 1 < l.length by omega)]
  simp only [Option.getD_some]
  rw [List.pairwise_iff_getElem] at h
  subst e
  constructor
  · by_cases h0 : i = 0
    · subst h0; exact Int.le_refl _
    · exact Int.le_of_lt (h 0 i hp hi (by omega))
  · by_cases h0 : i = l.length - 1
    · subst h0; exact Int.le_refl _
    · exact Int.le_of_lt (h i (l.length - 1) hi (by omega) (by omega))
theorem gr4_pair {p : P4} {wh : Int} {u : W4} {g : Nat × List Int} (h : g ∈ gr4 p wh u) : g.2.Pairwise (· < ·) := by rw [(mem_gr4.1 h).2]; exact ups_pair.filter _
theorem tr4_any {p : P4} (h : tr4 p ≠ []) : ∃ u b a, Tr4 p u b a := by
  obtain ⟨x, hx⟩ := List.exists_mem_of_ne_nil _ h
  obtain ⟨⟨-, h1, h2⟩, -⟩ := mem_tr4.1 hx
  exact ⟨x.u, fr4 x.b.2, fr4 x.a.2, tr4_iff.2 ⟨x, hx, rfl, fr4_mem (gr4_ne h1), fr4_mem (gr4_ne h2)⟩⟩
theorem tr4_ne {p : P4} {u : W4} {b a : Int} (h : Tr4 p u b a) : tr4 p ≠ [] := by
  obtain ⟨x, hx, -⟩ := tr4_iff.1 h
  intro e
  rw [e] at hx
  cases hx
/-- the ends of a bundle are truths, and all of it lies between them -/
theorem tr4_ends {p : P4} {x : Bu4} (hx : x ∈ tr4 p) : Tr4 p x.u (la4 x.b.2) (fr4 x.a.2) ∧ Tr4 p x.u (fr4 x.b.2) (la4 x.a.2) ∧ (∀ b ∈ x.b.2, fr4 x.b.2 ≤ b ∧ b ≤ la4 x.b.2) ∧ ∀ a ∈ x.a.2, fr4 x.a.2 ≤ a ∧ a ≤ la4 x.a.2 := by
  obtain ⟨⟨-, h1, h2⟩, -⟩ := mem_tr4.1 hx
  exact ⟨tr4_iff.2 ⟨x, hx, rfl, la4_mem (gr4_ne h1), fr4_mem (gr4_ne h2)⟩, tr4_iff.2 ⟨x, hx, rfl, fr4_mem (gr4_ne h1), la4_mem (gr4_ne h2)⟩, fun b hb => pair_mem4 (gr4_pair h1) hb, fun a ha => pair_mem4 (gr4_pair h2) ha⟩
theorem en4_truth {p : P4} {u : W4} {b a : Int} (h : Tr4 p u b a) : (en4 (tr4 p) (tr4 p).length).lo ≤ a - b ∧ a - b ≤ (en4 (tr4 p) (tr4 p).length).hi := by
  obtain ⟨x, hx, -, hb, ha⟩ := tr4_iff.1 h
  have h1 := (en4_all (tr4_ne h)).1 x hx
  obtain ⟨-, -, h2, h3⟩ := tr4_ends hx
  have h2 := h2 b hb
  have h3 := h3 a ha
  unfold sp4 at h1
  simp only at h1
  omega
theorem en4_hit {p : P4} (h : tr4 p ≠ []) : (∃ u b a, Tr4 p u b a ∧ (en4 (tr4 p) (tr4 p).length).lo = a - b) ∧ ∃ u b a, Tr4 p u b a ∧ (en4 (tr4 p) (tr4 p).length).hi = a - b := by
  obtain ⟨-, ⟨x, hx, e1⟩, ⟨y, hy, e2⟩⟩ := en4_all h
  exact ⟨⟨x.u, _, _, (tr4_ends hx).1, e1⟩, ⟨y.u, _, _, (tr4_ends hy).2.1, e2⟩⟩
/-- all lengths of a time -/
theorem mem_lg4 {p : P4} {wh n : Int} : n ∈ lg4 p (tr4 p) wh ↔ ∃ u b a, Tr4 p u b a ∧ n = if wh = 2 then a else b := by
  unfold lg4
  rw [List.mem_filter, List.any_eq_true]
  constructor
  · rintro ⟨-, x, hx, h⟩
    obtain ⟨⟨-, h1, h2⟩, -⟩ := mem_tr4.1 hx
    have h := List.contains_iff_mem.1 h
    unfold sd4 at h
    by_cases hw : wh = 2
    · rw [if_pos hw] at h
      exact ⟨x.u, fr4 x.b.2, n, tr4_iff.2 ⟨x, hx, rfl, fr4_mem (gr4_ne h1), h⟩, by rw [if_pos hw]⟩
    · rw [if_neg hw] at h
      exact ⟨x.u, n, fr4 x.a.2, tr4_iff.2 ⟨x, hx, rfl, h, fr4_mem (gr4_ne h2)⟩, by rw [if_neg hw]⟩
  · rintro ⟨u, b, a, ht, e⟩
    obtain ⟨x, hx, -, hb, ha⟩ := tr4_iff.1 ht
    obtain ⟨-, k1, k2, -⟩ := ht
    unfold sd4
    by_cases hw : wh = 2
    · rw [if_pos hw] at e
      subst e
      exact ⟨k2, x, hx, by rw [if_pos hw]; exact List.contains_iff_mem.2 ha⟩
    · rw [if_neg hw] at e
      subst e
      exact ⟨k1, x, hx, by rw [if_neg hw]; exact List.contains_iff_mem.2 hb⟩
theorem lg4_pair {p : P4} {l : List Bu4} {wh : Int} : (lg4 p l wh).Pairwise (· < ·) := ups_pair.filter _
/-- all lengths of a rod -/
theorem mem_rl4 {p : P4} {q : Nat} {n : Int} : n ∈ rl4 (tr4 p) q ↔ (0 ≤ n ∧ n ≤ 9999) ∧ ∃ u b a, Tr4 p u b a ∧ n = u.at_ q := by
  unfold rl4
  rw [List.mem_filter, List.any_eq_true, ups_mem]
  constructor
  · rintro ⟨h0, x, hx, h⟩
    exact ⟨h0, x.u, _, _, (tr4_ends hx).1, by simpa using h⟩
  · rintro ⟨h0, u, b, a, ht, e⟩
    obtain ⟨x, hx, rfl, -⟩ := tr4_iff.1 ht
    exact ⟨h0, x, hx, by simpa using e⟩
theorem rl4_pair {l : List Bu4} {q : Nat} : (rl4 l q).Pairwise (· < ·) := ups_pair.filter _
/-- lists that ascend and hold the same are equal -/
theorem pair_ext4 : ∀ {l m : List Int}, l.Pairwise (· < ·) → m.Pairwise (· < ·) → (∀ x, x ∈ l ↔ x ∈ m) → l = m
  | [], [], _, _, _ => rfl
  | [], y :: m, _, _, h => absurd ((h y).2 (List.mem_cons_self ..)) (by simp)
  | x :: l, [], _, _, h => absurd ((h x).1 (List.mem_cons_self ..)) (by simp)
  | x :: l, y :: m, hl, hm, h => by
    obtain ⟨h1, h2⟩ := List.pairwise_cons.1 hl
    obtain ⟨k1, k2⟩ := List.pairwise_cons.1 hm
    have e : x = y := by
      rcases List.mem_cons.1 ((h x).1 (List.mem_cons_self ..)) with e | e
      · exact e
      rcases List.mem_cons.1 ((h y).2 (List.mem_cons_self ..)) with e' | e'
      · exact e'.symm
      · have := h1 y e'; have := k1 x e; omega
    subst e
    rw [pair_ext4 h2 k2 fun z => ?_]
    constructor
    · intro hz
      rcases List.mem_cons.1 ((h z).1 (List.mem_cons_of_mem _ hz)) with e | e
      · have := h1 z hz; omega
      · exact e
    · intro hz
      rcases List.mem_cons.1 ((h z).2 (List.mem_cons_of_mem _ hz)) with e | e
      · have := k1 z hz; omega
      · exact e
/-- whether the stretch is at most a part of the length before -/
theorem is4_side {pt b b' a a' : Int} (hp : 0 ≤ pt) (hb : b ≤ b') (ha : a' ≤ a) (h : is4 pt b a = true) : is4 pt b' a' = true := by
  unfold is4 at h ⊢
  have h1 := of_decide_eq_true h
  have h2 : pt * b ≤ pt * b' := Int.mul_le_mul_of_nonneg_left hb hp
  exact decide_eq_true (by omega)
theorem hd4_yes {p : P4} {pt : Int} (hp : 0 ≤ pt) : hd4 (tr4 p) pt = 1 ↔ ∀ u b a, Tr4 p u b a → is4 pt b a = true := by
  rw [hd4_sure]
  constructor
  · intro h u b a ht
    obtain ⟨x, hx, -, hb, ha⟩ := tr4_iff.1 ht
    obtain ⟨-, -, h2, h3⟩ := tr4_ends hx
    exact is4_side hp (h2 b hb).1 (h3 a ha).2 (h x hx)
  · intro h x hx
    exact h _ _ _ (tr4_ends hx).2.1
theorem hd4_not {p : P4} {pt : Int} (hp : 0 ≤ pt) (hne : tr4 p ≠ []) : hd4 (tr4 p) pt = 2 ↔ ∀ u b a, Tr4 p u b a → is4 pt b a = false := by
  constructor
  · intro h u b a ht
    obtain ⟨x, hx, -, hb, ha⟩ := tr4_iff.1 ht
    obtain ⟨-, -, h2, h3⟩ := tr4_ends hx
    cases e : is4 pt b a
    · rfl
    · have := is4_side hp (h2 b hb).2 (h3 a ha).1 e
      have h0 : is4 pt (la4 x.b.2) (fr4 x.a.2) = false := (hd4_never h).2 x hx
      rw [h0] at this
      cases this
  · intro h
    obtain ⟨x, hx⟩ := List.exists_mem_of_ne_nil _ hne
    exact hd4_never_of ⟨x, hx, h _ _ _ (tr4_ends hx).2.1⟩ fun y hy => h _ _ _ (tr4_ends hy).1
/-- there is a truth -/
theorem op4_truth {p : P4} (hc : ck4 p = true) : op4 p true = 0 ↔ ∃ u b a, Tr4 p u b a := by
  unfold op4
  rw [hc]
  constructor
  · intro h
    cases e : tr4 p with
    | nil => rw [e] at h; simp at h
    | cons x l => exact tr4_any (by rw [e]; simp)
  · rintro ⟨u, b, a, ht⟩
    cases e : tr4 p with
    | nil => exact absurd e (tr4_ne ht)
    | cons x l => rfl
theorem op4_none {p : P4} (hc : ck4 p = true) (h : tr4 p = []) : op4 p true = 3 := by unfold op4; rw [hc, h]; rfl
/-- all readings of a time that is without wrong ones are right -/
theorem wr4_zero {p : P4} {wh : Int} {u : W4} {l : Int} (h : wr4 p wh u l = 0) {j : Nat} (hj : j < p.res.length) (hw : (reAt p.res j).wh = wh) : rg4 p u l j = true := by
  unfold wr4 wk4 at h
  have h1 := List.eq_nil_of_length_eq_zero h
  cases e : rg4 p u l j
  · have : j ∈ (List.range p.res.length).filter fun j => decide ((reAt p.res j).wh = wh) && !rg4 p u l j := List.mem_filter.2 ⟨List.mem_range.2 hj, by rw [e, decide_eq_true hw]; rfl⟩
    rw [h1] at this
    cases this
  · rfl

theorem nodup_le4 {α : Type} [BEq α] [LawfulBEq α] : ∀ (A B : List α), A.Nodup → (∀ x ∈ A, x ∈ B) → A.length ≤ B.length
  | [], B, _, _ => by simp
  | a :: A, B, hn, hs => by
    have ha := hs a (by simp)
    obtain ⟨h1, h2⟩ := List.nodup_cons.1 hn
    have h3 := nodup_le4 A (B.erase a) h2 (fun x hx => by
      refine (List.mem_erase_of_ne ?_).2 (hs x (by simp [hx]))
      rintro rfl
      exact h1 hx)
    rw [List.length_erase_of_mem ha] at h3
    have := List.length_pos_of_mem ha
    simp only [List.length_cons]
    omega
theorem nodup_flat4 {α β : Type} {f : α → List β} : ∀ {l : List α}, l.Nodup → (∀ x ∈ l, (f x).Nodup) → (∀ x ∈ l, ∀ y ∈ l, ∀ t, t ∈ f x → t ∈ f y → x = y) → (l.flatMap f).Nodup
  | [], _, _, _ => by simp
  | a :: l, h, h1, h2 => by
    obtain ⟨k1, k2⟩ := List.nodup_cons.1 h
    rw [List.flatMap_cons, List.nodup_append]
    refine ⟨h1 a (List.mem_cons_self ..), nodup_flat4 k2 (fun x hx => h1 x (List.mem_cons_of_mem _ hx)) (fun x hx y hy => h2 x (List.mem_cons_of_mem _ hx) y (List.mem_cons_of_mem _ hy)), ?_⟩
    rintro s hs t ht rfl
    obtain ⟨y, hy, hty⟩ := List.mem_flatMap.1 ht
    have := h2 a (List.mem_cons_self ..) y (List.mem_cons_of_mem _ hy) s hs hty
    subst this
    exact k1 hy
theorem nodup_map4 {α β : Type} {f : α → β} {l : List α} (h : l.Nodup) (hf : ∀ x ∈ l, ∀ y ∈ l, f x = f y → x = y) : (l.map f).Nodup := by
  have := nodup_flat4 (f := fun x => [f x]) h (fun x _ => by simp) (fun x hx y hy t ht ht' => by simp at ht ht'; exact hf x hx y hy (ht.symm.trans ht'))
  rwa [← List.map_eq_flatMap] at this
theorem pair_nodup4 {l : List Int} (h : l.Pairwise (· < ·)) : l.Nodup := h.imp fun hab e => by omega
theorem ups_nodup4 {a b : Int} : (ups a b).Nodup := pair_nodup4 ups_pair
theorem gr4_nodup {p : P4} {wh : Int} {u : W4} : (gr4 p wh u).Nodup := by
  unfold gr4
  refine nodup_map4 (List.nodup_range.filter _) fun x _ y _ e => ?_
  exact congrArg Prod.fst e
/-- what the lengths of the rods are -/
theorem put_at4 {u : W4} {i j : Nat} {n : Int} (hi : i ≤ 3) (hj : j ≤ 3) : (u.put i n).at_ j = if j = i then n else u.at_ j := by
  by_cases h : j = i
  · subst h; rw [if_pos rfl, W4.at_put]
  · rw [if_neg h, W4.at_put_ne hj hi h]
theorem w4_ext {u v : W4} (h : ∀ i, i ≤ 3 → u.at_ i = v.at_ i) : u = v := by
  obtain ⟨a, b, c, d⟩ := u
  obtain ⟨a', b', c', d'⟩ := v
  have h0 := h 0 (by omega)
  have h1 := h 1 (by omega)
  have h2 := h 2 (by omega)
  have h3 := h 3 (by omega)
  simp only [W4.at_] at h0 h1 h2 h3
  subst h0 h1 h2 h3
  rfl
theorem mem_wo4 {rods : List Ro4} : ∀ {r i : Nat} {u v : W4}, i + r ≤ 4 → (v ∈ wo4 rods i r u ↔ (∀ j, i ≤ j → j < i + r → (roAt rods j).lg - (roAt rods j).we ≤ v.at_ j ∧ v.at_ j ≤ (roAt rods j).lg) ∧ ∀ j, j ≤ 3 → (j < i ∨ i + r ≤ j) → v.at_ j = u.at_ j)
  | 0, i, u, v, hi => by
    rw [wo4, List.mem_singleton]
    constructor
    · rintro rfl; exact ⟨fun j h1 h2 => absurd h2 (by omega), fun _ _ _ => rfl⟩
    · rintro ⟨-, h⟩; exact w4_ext fun j hj => h j hj (by omega)
  | r + 1, i, u, v, hi => by
    rw [wo4, List.mem_flatMap]
    constructor
    · rintro ⟨n, hn, hv⟩
      obtain ⟨h1, h2⟩ := (mem_wo4 (by omega)).1 hv
      have hn := ups_mem.1 hn
      have hvi := h2 i (by omega) (.inl (by omega))
      rw [W4.at_put] at hvi
      refine ⟨fun j j1 j2 => ?_, fun j j1 j2 => ?_⟩
      · by_cases e : j = i
        · subst e; rw [hvi]; exact hn
        · exact h1 j (by omega) (by omega)
      · rw [h2 j j1 (by omega), put_at4 (by omega) j1, if_neg (by omega)]
    · rintro ⟨h1, h2⟩
      refine ⟨v.at_ i, ups_mem.2 (h1 i (by omega) (by omega)), (mem_wo4 (by omega)).2 ⟨fun j j1 j2 => h1 j (by omega) (by omega), fun j j1 j2 => ?_⟩⟩
      rw [put_at4 (by omega) j1]
      by_cases e : j = i
      · rw [if_pos e, e]
      · rw [if_neg e, h2 j j1 (by omega)]
theorem wo4_nodup {rods : List Ro4} : ∀ {r i : Nat} {u : W4}, i + r ≤ 4 → (wo4 rods i r u).Nodup
  | 0, i, u, _ => by rw [wo4]; simp
  | r + 1, i, u, hi => by
    rw [wo4]
    refine nodup_flat4 ups_nodup4 (fun n _ => wo4_nodup (by omega)) fun x _ y _ t hx hy => ?_
    have h1 := ((mem_wo4 (by omega)).1 hx).2 i (by omega) (.inl (by omega))
    have h2 := ((mem_wo4 (by omega)).1 hy).2 i (by omega) (.inl (by omega))
    rw [W4.at_put] at h1 h2
    omega
/-- which lengths the rods can have -/
theorem mem_ws4 {p : P4} (h : p.rods.length ≤ 4) {v : W4} : v ∈ ws4 p ↔ (∀ j, j < p.rods.length → (roAt p.rods j).lg - (roAt p.rods j).we ≤ v.at_ j ∧ v.at_ j ≤ (roAt p.rods j).lg) ∧ ∀ j, j ≤ 3 → p.rods.length ≤ j → v.at_ j = 0 := by
  unfold ws4
  rw [mem_wo4 (by omega)]
  constructor
  · rintro ⟨h1, h2⟩
    refine ⟨fun j hj => h1 j (by omega) (by omega), fun j hj hj' => ?_⟩
    rw [h2 j hj (by omega)]
    match j, hj with
    | 0, _ => rfl
    | 1, _ => rfl
    | 2, _ => rfl
    | 3, _ => rfl
  · rintro ⟨h1, h2⟩
    refine ⟨fun j _ hj => h1 j (by omega), fun j hj hj' => ?_⟩
    rw [h2 j hj (by omega)]
    match j, hj with
    | 0, _ => rfl
    | 1, _ => rfl
    | 2, _ => rfl
    | 3, _ => rfl
theorem ws4_nodup {p : P4} (h : p.rods.length ≤ 4) : (ws4 p).Nodup := wo4_nodup (by omega)
theorem bs4_nodup {p : P4} (h : p.rods.length ≤ 4) : (bs4 p).Nodup := by
  unfold bs4
  refine nodup_flat4 (ws4_nodup h) (fun u _ => nodup_flat4 gr4_nodup (fun g _ => nodup_map4 gr4_nodup fun x _ y _ e => ?_) fun x _ y _ t hx hy => ?_) fun x _ y _ t hx hy => ?_
  · exact congrArg Bu4.a e
  · obtain ⟨_, _, rfl⟩ := List.mem_map.1 hx
    obtain ⟨_, _, e⟩ := List.mem_map.1 hy
    exact (congrArg Bu4.b e).symm
  · simp only [List.mem_flatMap, List.mem_map] at hx hy
    obtain ⟨_, _, _, _, rfl⟩ := hx
    obtain ⟨_, _, _, _, e⟩ := hy
    exact (congrArg Bu4.u e).symm
/-- all lengths, as the specification tries them -/
def alt4 (p : P4) : List (Int × Int × W4) := (ln4 p).flatMap fun b => (ln4 p).flatMap fun a => (ws4 p).map fun u => (b, a, u)
def trl4 (p : P4) : List (Int × Int × W4) := (alt4 p).filter fun t => decide (((wr4 p 1 t.2.2 t.1 + wr4 p 2 t.2.2 t.2.1 : Nat) : Int) ≤ p.wr)
theorem mem_alt4 {p : P4} {t : Int × Int × W4} : t ∈ alt4 p ↔ t.1 ∈ ln4 p ∧ t.2.1 ∈ ln4 p ∧ t.2.2 ∈ ws4 p := by
  unfold alt4
  simp only [List.mem_flatMap, List.mem_map]
  constructor
  · rintro ⟨b, hb, a, ha, u, hu, rfl⟩; exact ⟨hb, ha, hu⟩
  · rintro ⟨hb, ha, hu⟩; exact ⟨_, hb, _, ha, _, hu, rfl⟩
theorem mem_trl4 {p : P4} {t : Int × Int × W4} : t ∈ trl4 p ↔ Tr4 p t.2.2 t.1 t.2.1 := by
  unfold trl4
  rw [List.mem_filter, mem_alt4, decide_eq_true_eq]
  exact ⟨fun ⟨⟨h1, h2, h3⟩, h4⟩ => ⟨h3, h1, h2, h4⟩, fun ⟨h3, h1, h2, h4⟩ => ⟨⟨h1, h2, h3⟩, h4⟩⟩
theorem alt4_nodup {p : P4} (h : p.rods.length ≤ 4) : (alt4 p).Nodup := by
  unfold alt4
  refine nodup_flat4 ups_nodup4 (fun b _ => nodup_flat4 ups_nodup4 (fun a _ => nodup_map4 (ws4_nodup h) fun x _ y _ e => ?_) fun x _ y _ t hx hy => ?_) fun x _ y _ t hx hy => ?_
  · exact congrArg (fun t => t.2.2) e
  · obtain ⟨_, _, rfl⟩ := List.mem_map.1 hx
    obtain ⟨_, _, e⟩ := List.mem_map.1 hy
    exact (congrArg (fun t => t.2.1) e).symm
  · simp only [List.mem_flatMap, List.mem_map] at hx hy
    obtain ⟨_, _, _, _, rfl⟩ := hx
    obtain ⟨_, _, _, _, e⟩ := hy
    exact (congrArg (fun t => t.1) e).symm
theorem trl4_nodup {p : P4} (h : p.rods.length ≤ 4) : (trl4 p).Nodup := (alt4_nodup h).filter _
/-- the truths of a bundle -/
def tb4 (x : Bu4) : List (Int × Int × W4) := x.b.2.flatMap fun b => x.a.2.map fun a => (b, a, x.u)
theorem mem_tb4 {x : Bu4} {t : Int × Int × W4} : t ∈ tb4 x ↔ t.1 ∈ x.b.2 ∧ t.2.1 ∈ x.a.2 ∧ t.2.2 = x.u := by
  unfold tb4
  simp only [List.mem_flatMap, List.mem_map]
  constructor
  · rintro ⟨b, hb, a, ha, rfl⟩; exact ⟨hb, ha, rfl⟩
  · rintro ⟨hb, ha, e⟩; exact ⟨_, hb, _, ha, by rw [← e]⟩
theorem mn4_flat {l : List Bu4} : mn4 l l.length = (l.flatMap tb4).length := by
  unfold mn4
  rw [List.take_length]
  induction l with
  | nil => rfl
  | cons x l ih =>
    rw [List.map_cons, List.sum_cons, List.flatMap_cons, List.length_append, ih]
    congr 1
    unfold tb4
    rw [len_flat (c := x.a.2.length) fun b _ => by rw [List.length_map]]
/-- Many counts the truths -/
theorem mn4_trl {p : P4} (h : p.rods.length ≤ 4) : mn4 (tr4 p) (tr4 p).length = (trl4 p).length := by
  rw [mn4_flat]
  have hm : ∀ t, t ∈ (tr4 p).flatMap tb4 ↔ t ∈ trl4 p := fun t => by
    rw [mem_trl4, tr4_iff, List.mem_flatMap]
    constructor
    · rintro ⟨x, hx, ht⟩
      obtain ⟨h1, h2, h3⟩ := mem_tb4.1 ht
      exact ⟨x, hx, h3.symm, h1, h2⟩
    · rintro ⟨x, hx, h3, h1, h2⟩
      exact ⟨x, hx, mem_tb4.2 ⟨h1, h2, h3.symm⟩⟩
  have hn : ((tr4 p).flatMap tb4).Nodup := by
    refine nodup_flat4 ((bs4_nodup h).filter _) (fun x hx => ?_) fun x hx y hy t h1 h2 => ?_
    · obtain ⟨⟨-, k1, k2⟩, -⟩ := mem_tr4.1 hx
      unfold tb4
      refine nodup_flat4 (pair_nodup4 (gr4_pair k1)) (fun b _ => nodup_map4 (pair_nodup4 (gr4_pair k2)) fun a _ a' _ e => congrArg (fun t => t.2.1) e) fun b _ b' _ t hb hb' => ?_
      obtain ⟨_, _, rfl⟩ := List.mem_map.1 hb
      obtain ⟨_, _, e⟩ := List.mem_map.1 hb'
      exact (congrArg (fun t => t.1) e).symm
    · obtain ⟨a1, a2, a3⟩ := mem_tb4.1 h1
      obtain ⟨b1, b2, b3⟩ := mem_tb4.1 h2
      obtain ⟨⟨-, x1, x2⟩, -⟩ := mem_tr4.1 hx
      obtain ⟨⟨-, y1, y2⟩, -⟩ := mem_tr4.1 hy
      obtain ⟨xu, ⟨xb, xl⟩, ⟨xa, xm⟩⟩ := x
      obtain ⟨yu, ⟨yb, yl⟩, ⟨ya, ym⟩⟩ := y
      simp only at a1 a2 a3 b1 b2 b3 x1 x2 y1 y2
      subst a3
      subst b3
      have e1 := ((gr4_mem x1).1 a1).2
      have e2 := ((gr4_mem y1).1 b1).2
      have e3 := ((gr4_mem x2).1 a2).2
      have e4 := ((gr4_mem y2).1 b2).2
      simp only at e1 e2 e3 e4
      have f1 : xb = yb := by omega
      have f2 : xa = ya := by omega
      subst f1 f2
      have g1 := (mem_gr4.1 x1).2
      have g2 := (mem_gr4.1 y1).2
      have g3 := (mem_gr4.1 x2).2
      have g4 := (mem_gr4.1 y2).2
      simp only at g1 g2 g3 g4
      subst g1 g2 g3 g4
      rfl
  exact Nat.le_antisymm (nodup_le4 _ _ hn fun t ht => (hm t).1 ht) (nodup_le4 _ _ (trl4_nodup h) fun t ht => (hm t).2 ht)

end Go.Proofs.YtcbeiadimchknaaGreat
