/- The plain law of the parts (layer 4): what Holds and Best answer with parts one greater than the other. -/
import Derived.Test.YtjlibgledkdfiaaRy4
namespace Go.Proofs.Ytjlibgledkdfiaa
open Go.RowKit
open Go.Sort (grow)
set_option linter.unusedVariables false

theorem is4_mono {a b x y : Int} (hx : 1 ≤ x) (hab : a ≤ b) (h : is4 a x y = true) : is4 b x y = true := by
  unfold is4 at h ⊢
  have h1 := of_decide_eq_true h
  have h2 : a * x ≤ b * x := Int.mul_le_mul_of_nonneg_right hab (by omega)
  exact decide_eq_true (by omega)
theorem hd4_sure {l : List Bu4} {pt : Int} : hd4 l pt = 1 ↔ ∀ x ∈ l, su4 pt x = true := by
  unfold hd4 noB
  rw [List.take_length]
  cases e : l.any (fun x => !su4 pt x)
  · simp only [cond_false, true_iff]
    intro x hx
    have := List.any_eq_false.1 e x hx
    simpa using this
  · simp only [cond_true]
    obtain ⟨x, hx, h⟩ := List.any_eq_true.1 e
    constructor
    · intro h'
      cases hs : soB l pt l.length <;> rw [hs] at h' <;> simp at h'
    · intro h'
      rw [h' x hx] at h
      cases h
theorem hd4_never {l : List Bu4} {pt : Int} (h : hd4 l pt = 2) : (∃ x ∈ l, su4 pt x = false) ∧ ∀ x ∈ l, so4 pt x = false := by
  unfold hd4 noB soB at h
  rw [List.take_length] at h
  cases e : l.any (fun x => !su4 pt x)
  · rw [e] at h; simp at h
  · obtain ⟨x, hx, h1⟩ := List.any_eq_true.1 e
    refine ⟨⟨x, hx, by simpa using h1⟩, fun y hy => ?_⟩
    cases e2 : l.any (so4 pt)
    · have := List.any_eq_false.1 e2 y hy
      simpa using this
    · rw [e, e2] at h; simp at h
theorem hd4_never_of {l : List Bu4} {pt : Int} (h1 : ∃ x ∈ l, su4 pt x = false) (h2 : ∀ x ∈ l, so4 pt x = false) : hd4 l pt = 2 := by
  unfold hd4 noB soB
  rw [List.take_length]
  obtain ⟨x, hx, h⟩ := h1
  rw [show l.any (fun x => !su4 pt x) = true from List.any_eq_true.2 ⟨x, hx, by rw [h]; rfl⟩, show l.any (so4 pt) = false from List.any_eq_false.2 fun y hy => by rw [h2 y hy]; decide]
  rfl
theorem su4_mono {a b : Int} {x : Bu4} (hx : OkB x) (hab : a ≤ b) (h : su4 a x = true) : su4 b x = true := is4_mono (hx.b _ (fr4_mem hx.bn)).1 hab h
theorem so4_mono {a b : Int} {x : Bu4} (hx : OkB x) (hab : a ≤ b) (h : so4 a x = true) : so4 b x = true := is4_mono (hx.b _ (la4_mem hx.bn)).1 hab h
theorem hd4_up {l : List Bu4} {a b : Int} (hl : ∀ x ∈ l, OkB x) (hab : a ≤ b) (h : hd4 l a = 1) : hd4 l b = 1 :=
  hd4_sure.2 fun x hx => su4_mono (hl x hx) hab (hd4_sure.1 h x hx)
theorem hd4_down {l : List Bu4} {a b : Int} (hl : ∀ x ∈ l, OkB x) (hab : a ≤ b) (h : hd4 l b = 2) : hd4 l a = 2 := by
  obtain ⟨⟨x, hx, h1⟩, h2⟩ := hd4_never h
  refine hd4_never_of ⟨x, hx, ?_⟩ fun y hy => ?_
  · cases e : su4 a x
    · rfl
    · rw [su4_mono (hl x hx) hab e] at h1; cases h1
  · cases e : so4 a y
    · rfl
    · have h3 := h2 y hy
      rw [so4_mono (hl y hy) hab e] at h3
      cases h3
/-- the ends of the stretch: below and above all, and reached -/
theorem en4_spec {l : List Bu4} : ∀ {k : Nat}, k ≤ l.length → 0 < k →
    (∀ x ∈ l.take k, (en4 l k).lo ≤ (sp4 x).lo ∧ (sp4 x).hi ≤ (en4 l k).hi) ∧ (∃ x ∈ l.take k, (en4 l k).lo = (sp4 x).lo) ∧ ∃ x ∈ l.take k, (en4 l k).hi = (sp4 x).hi
  | 0, _, h => absurd h (by omega)
  | k + 1, hk, _ => by
    have hg : l[k]? = some (l[k]'(by omega)) := List.getElem?_eq_getElem (by omega)
    obtain ⟨y, hy⟩ : ∃ y, l[k]'(by omega) = y := ⟨_, rfl⟩
    rw [hy] at hg
    have hs := en4_succ hg
    have ht : l.take (k + 1) = l.take k ++ [y] := by rw [List.take_add_one, hg]; rfl
    rw [ht, hs]
    by_cases h0 : k = 0
    · subst h0
      rw [if_pos rfl, hl4_idem]
      simp
    · rw [if_neg h0]
      obtain ⟨h1, ⟨x1, hx1, e1⟩, ⟨x2, hx2, e2⟩⟩ := en4_spec (l := l) (k := k) (by omega) (by omega)
      unfold hl4
      refine ⟨fun x hx => ?_, ?_, ?_⟩
      · rcases List.mem_append.1 hx with hx | hx
        · have := h1 x hx
          simp only
          omega
        · obtain rfl := List.mem_singleton.1 hx
          simp only
          omega
      · simp only
        rcases Int.le_total (en4 l k).lo (sp4 y).lo with h | h
        · exact ⟨x1, List.mem_append_left _ hx1, by omega⟩
        · exact ⟨y, by simp, by omega⟩
      · simp only
        rcases Int.le_total (en4 l k).hi (sp4 y).hi with h | h
        · exact ⟨y, by simp, by omega⟩
        · exact ⟨x2, List.mem_append_left _ hx2, by omega⟩
theorem en4_all {l : List Bu4} (h : l ≠ []) :
    (∀ x ∈ l, (en4 l l.length).lo ≤ (sp4 x).lo ∧ (sp4 x).hi ≤ (en4 l l.length).hi) ∧ (∃ x ∈ l, (en4 l l.length).lo = (sp4 x).lo) ∧ ∃ x ∈ l, (en4 l l.length).hi = (sp4 x).hi := by
  have := en4_spec (l := l) (k := l.length) (Nat.le_refl _) (List.length_pos_iff.2 h)
  rwa [List.take_length] at this
theorem pair_fl {l : List Int} (h : l.Pairwise (· < ·)) (hn : l ≠ []) : fr4 l ≤ la4 l := by
  have hp := List.length_pos_iff.2 hn
  unfold fr4 la4 iAt
  rw [List.getD_eq_getElem?_getD, List.getD_eq_getElem?_getD, List.getElem?_eq_getElem hp, List.getElem?_eq_getElem (by omega)]
  simp only [Option.getD_some]
  by_cases h1 : l.length - 1 = 0
  · simp [h1]
  · exact Int.le_of_lt (List.pairwise_iff_getElem.1 h 0 (l.length - 1) hp (by omega) (by omega))
theorem tr4_fl {p : P4} {x : Bu4} (h : x ∈ tr4 p) : fr4 x.b.2 ≤ la4 x.b.2 ∧ fr4 x.a.2 ≤ la4 x.a.2 := by
  obtain ⟨⟨-, h1, h2⟩, -⟩ := mem_tr4.1 h
  have f : ∀ wh g, g ∈ gr4 p wh x.u → fr4 g.2 ≤ la4 g.2 := fun wh g hg => pair_fl (by rw [(mem_gr4.1 hg).2]; exact ups_pair.filter _) (gr4_ne hg)
  exact ⟨f _ _ h1, f _ _ h2⟩
theorem en4_sane {p : P4} (hl : ∀ x ∈ tr4 p, OkB x) (h : tr4 p ≠ []) : sane4 (en4 (tr4 p) (tr4 p).length) = true := by
  obtain ⟨h1, ⟨x, hx, e1⟩, ⟨y, hy, e2⟩⟩ := en4_all h
  have k1 := h1 x hx
  have f1 := tr4_fl hx
  have a1 := (hl x hx).a _ (fr4_mem (hl x hx).an)
  have a2 := (hl x hx).b _ (la4_mem (hl x hx).bn)
  have b1 := (hl y hy).a _ (la4_mem (hl y hy).an)
  have b2 := (hl y hy).b _ (fr4_mem (hl y hy).bn)
  unfold sp4 at k1 e1 e2
  simp only at k1 e1 e2
  unfold sane4
  simp only [Bool.and_eq_true, decide_eq_true_eq]
  omega
theorem hd4_zero {l : List Bu4} (h : l ≠ []) : hd4 l 0 = 1 ↔ (en4 l l.length).hi ≤ 0 := by
  obtain ⟨h1, -, ⟨y, hy, e2⟩⟩ := en4_all h
  rw [hd4_sure]
  have hs : ∀ x : Bu4, su4 0 x = true ↔ (sp4 x).hi ≤ 0 := fun x => by
    unfold su4 is4 sp4
    simp only [decide_eq_true_eq]
    omega
  constructor
  · intro h'
    rw [e2]
    exact (hs y).1 (h' y hy)
  · intro h' x hx
    have := (h1 x hx).2
    exact (hs x).2 (by omega)
theorem bst4_spec {l : List Bu4} {k : Nat} (h : bst4 l = some k) : k ≤ 1000 ∧ hd4 l k = 1 ∧ ∀ j : Nat, j < k → hd4 l j ≠ 1 := by
  unfold bst4 at h
  have h1 := List.find?_some h
  have h2 := List.mem_range.1 (List.mem_of_find?_eq_some h)
  refine ⟨by omega, by simpa using h1, fun j hj hh => ?_⟩
  rw [List.find?_eq_some_iff_getElem] at h
  obtain ⟨-, i, hi, e, hb⟩ := h
  simp only [List.getElem_range] at e
  subst e
  have := hb j hj
  simp [hh] at this
theorem bst4_at {l : List Bu4} (hl : ∀ x ∈ l, OkB x) {k : Nat} (h : bst4 l = some k) {a : Int} (ha : 0 ≤ a) : hd4 l a = 1 ↔ (k : Int) ≤ a := by
  obtain ⟨h1, h2, h3⟩ := bst4_spec h
  constructor
  · intro h'
    by_cases hk : (k : Int) ≤ a
    · exact hk
    · exact absurd (by rw [Int.toNat_of_nonneg ha]; exact h') (h3 a.toNat (by omega))
  · intro h'
    exact hd4_up hl h' h2
theorem bst4_no {l : List Bu4} (h : bst4 l = none) {b : Int} (hb : 0 ≤ b ∧ b ≤ 1000) : hd4 l b ≠ 1 := by
  unfold bst4 at h
  rw [List.find?_eq_none] at h
  have := h b.toNat (List.mem_range.2 (by omega))
  rw [Int.toNat_of_nonneg hb.1] at this
  simpa using this
theorem hd4_range {l : List Bu4} {pt : Int} : hd4 l pt = 1 ∨ hd4 l pt = 2 ∨ hd4 l pt = 3 := by
  unfold hd4
  cases noB l pt l.length <;> cases soB l pt l.length <;> simp

end Go.Proofs.Ytjlibgledkdfiaa
