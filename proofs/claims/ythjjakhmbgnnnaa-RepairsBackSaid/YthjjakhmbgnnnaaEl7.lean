/- Each good repair (layer 7), in plain words: what RepairsEach asks. -/
import Derived.Test.YthjjakhmbgnnnaaRp7
namespace Go.Proofs.Ythjjakhmbgnnnaa
open Go.RowKit
open Go.Sort (grow)
set_option linter.unusedVariables false

theorem sorted_ext : ∀ (a b : List Nat), a.Pairwise (· < ·) → b.Pairwise (· < ·) → (∀ x, x ∈ a ↔ x ∈ b) → a = b
  | [], [], _, _, _ => rfl
  | [], y :: b, _, _, h => by have := (h y).2 (by simp); simp at this
  | x :: a, [], _, _, h => by have := (h x).1 (by simp); simp at this
  | x :: a, y :: b, ha, hb, h => by
    obtain ⟨ha1, ha2⟩ := List.pairwise_cons.1 ha
    obtain ⟨hb1, hb2⟩ := List.pairwise_cons.1 hb
    have hxy : x = y := by
      rcases List.mem_cons.1 ((h x).1 (by simp)) with e | e
      · exact e
      · rcases List.mem_cons.1 ((h y).2 (by simp)) with e' | e'
        · exact e'.symm
        · have := hb1 x e
          have := ha1 y e'
          omega
    subst hxy
    rw [sorted_ext a b ha2 hb2 fun z => ?_]
    constructor
    · intro hz
      rcases List.mem_cons.1 ((h z).1 (by simp [hz])) with e | e
      · have := ha1 z hz; omega
      · exact e
    · intro hz
      rcases List.mem_cons.1 ((h z).2 (by simp [hz])) with e | e
      · have := hb1 z hz; omega
      · exact e
theorem isR_lt {n m : Nat} {l : List Int} (h : isR n m l = true) : ∀ j i, i < j → j < m → iAt l i < iAt l j := by
  intro j
  induction j with
  | zero => intro i hi; omega
  | succ j ih =>
    intro i hi hj
    have h1 := allN_iff.1 h (j + 1) hj
    simp only [stO, Bool.and_eq_true, Bool.not_eq_true', Bool.and_eq_false_iff, decide_eq_false_iff_not] at h1
    have h2 : iAt l j < iAt l (j + 1) := by
      rcases h1.2 with h3 | h3
      · omega
      · rw [Nat.add_sub_cancel] at h3; omega
    rcases Nat.lt_succ_iff_lt_or_eq.1 hi with h' | rfl
    · have := ih i h' (by omega); omega
    · exact h2
theorem isR_list {n m : Nat} {l : List Int} (h : isR n m l = true) (hl : l.length = m) : l = ints (memN (ofK l m) n) := by
  have hnn := isR_nn h
  have e : l = ints (l.map Int.toNat) := by
    unfold ints
    rw [List.map_map]
    refine List.ext_getElem (by simp) fun k hk _ => ?_
    rw [List.getElem_map]
    have := (hnn k (by omega)).1
    rw [show iAt l k = l[k] by unfold iAt; rw [List.getD_eq_getElem?_getD, List.getElem?_eq_getElem hk]; rfl] at this
    simp; omega
  have hg : ∀ k (hk : k < l.length), l[k] = iAt l k := fun k hk => by unfold iAt; rw [List.getD_eq_getElem?_getD, List.getElem?_eq_getElem hk]; rfl
  refine e.trans (congrArg ints (sorted_ext _ _ ?_ ?_ fun i => ?_))
  · rw [List.pairwise_map, List.pairwise_iff_getElem]
    intro i j hi hj hij
    rw [hg, hg]
    have := isR_lt h j i hij (by omega)
    have := (hnn i (by omega)).1
    omega
  · exact List.Pairwise.filter _ List.pairwise_lt_range
  · rw [memN, List.mem_filter, List.mem_range, ofK_bit (fun j hj => (hnn j hj).1), anyN_iff, List.mem_map]
    constructor
    · rintro ⟨v, hv, rfl⟩
      obtain ⟨k, hk, rfl⟩ := List.getElem_of_mem hv
      rw [hg k hk]
      have := hnn k (by omega)
      exact ⟨by omega, k, by omega, by simp; omega⟩
    · rintro ⟨h1, k, hk, h2⟩
      refine ⟨l[k]'(by omega), List.getElem_mem _, ?_⟩
      rw [hg]
      simp at h2
      omega
theorem isR_cnt {n m : Nat} {l : List Int} (h : isR n m l = true) (hl : l.length = m) : m = cntN (ofK l m) n := by
  have := congrArg List.length (isR_list h hl)
  rw [ints_len, hl] at this
  exact this
theorem mu_bit {n : Nat} {ls : List Sp} {q : Cb} {x : Nat} (hx : x ∈ shL q ls n) : ∀ i ∈ muL n ls q, i < n ∧ x.testBit i = true := by
  intro i hi
  unfold muL at hi
  cases h : ckC n ls q <;> rw [h] at hi
  · simp at hi
  · rw [cond_true] at hi
    cases e : shL q ls n with
    | nil => rw [e] at hx; simp at hx
    | cons y r =>
      rw [e] at hi hx
      simp only [memN, List.mem_filter, List.mem_range, and_bit, Bool.and_eq_true, List.all_eq_true] at hi
      exact ⟨hi.1, hi.2.2 x hx⟩
theorem sp_bit {n : Nat} {ls : List Sp} {q : Cb} {x : Nat} (hx : x ∈ shL q ls n) : ∀ i ∈ spL n ls q, i < n ∧ x.testBit i = false := by
  intro i hi
  unfold spL at hi
  cases h : ckC n ls q <;> rw [h] at hi
  · simp at hi
  · rw [cond_true] at hi
    cases e : shL q ls n with
    | nil => rw [e] at hx; simp at hx
    | cons y r =>
      rw [e] at hi hx
      simp only [lefN, List.mem_filter, List.mem_range, or_bit, Bool.not_eq_true', List.any_eq_false] at hi
      exact ⟨hi.1, by have := hi.2 x hx; simpa using this⟩
theorem mu_len (n : Nat) (ls : List Sp) (q : Cb) : (muL n ls q).length ≤ n := by
  unfold muL
  cases ckC n ls q
  · simp
  · rw [cond_true]
    cases shL q ls n with
    | nil => simp
    | cons y r => have := selN_len (andL y (y :: r)) n true; rw [selN_true] at this; exact this
theorem sp_len (n : Nat) (ls : List Sp) (q : Cb) : (spL n ls q).length ≤ n := by
  unfold spL
  cases ckC n ls q
  · simp
  · rw [cond_true]
    cases shL q ls n with
    | nil => simp
    | cons y r => have := selN_len (orL (y :: r)) n false; rw [selN_false] at this; exact this
theorem each_vals {n m : Nat} {ls : List Sp} {q : Cb} {l : List Int} {x0 x1 : Int} (h : ckC n ls q = true) (hr : isR n m l = true) (hl : l.length = m) (hg : goodB q ls n (ofK l m) = true) (h0 : 0 ≤ x0 ∧ x0 ≤ 999) (h1 : 0 ≤ x1 ∧ x1 ≤ 999) :
    (m = cntN (ofK l m) n ∧ erS n ls q = 0 ∧ (plC n ls q).length ≤ m) ∧ (∃ V, chR n ls q x0 x1 = (V, 0) ∧ 0 ≤ V ∧ V ≤ prc x0 x1 n (ofK l m)) ∧ (gvE n m ls q l = 0 ∧ gvG n m ls q l = true) ∧
    ((plC n ls q).length = m → (∀ k, k < (muL n ls q).length → (anyN m fun j => iAt l j == iAt (ints (muL n ls q)) k) = true) ∧ ∀ k, k < (spL n ls q).length → (anyN m fun j => iAt l j == iAt (ints (spL n ls q)) k) = false) := by
  have hc := isR_cnt hr hl
  have hlt := ofK_lt2 hr
  have hne : fewO q ls n ≠ none := fun e => by
    have := few_none.1 e _ hlt
    rw [hg] at this; cases this
  have hez := (er_zero h).2 hne
  have hpf := few_some (pl_few h hne)
  have hle : (plC n ls q).length ≤ m := by rw [hc]; exact hpf.2 _ hlt hg
  have hbit : ∀ i : Nat, (anyN m fun j => iAt l j == (i : Int)) = (ofK l m).testBit i := fun i => (ofK_bit (fun j hj => (isR_nn hr j hj).1) i).symm
  refine ⟨⟨hc, hez, hle⟩, ⟨chV q ls n x0 x1, ?_, ?_, ?_⟩, ?_, fun he => ?_⟩
  · rw [ch_err h h0 h1, hez]; rfl
  · obtain ⟨⟨x, a1, a2, a3⟩, -⟩ := ch_some h0.1 h1.1 hne
    rw [a3]; exact prc_nonneg h0.1 h1.1 n x
  · exact (ch_some h0.1 h1.1 hne).2 _ hlt hg
  · obtain ⟨a1, a2⟩ := gv_good h hr
    exact ⟨a1, a2.trans hg⟩
  · have hm : ofK l m ∈ shL q ls n := shL_of hlt hg fun z hz hgz => by rw [← hc, ← he]; exact hpf.2 z hz hgz
    refine ⟨fun k hk => ?_, fun k hk => ?_⟩
    · rw [ints_at (List.getElem?_eq_getElem hk), hbit]
      exact (mu_bit hm _ (List.getElem_mem hk)).2
    · rw [ints_at (List.getElem?_eq_getElem hk), hbit]
      exact (sp_bit hm _ (List.getElem_mem hk)).2

end Go.Proofs.Ythjjakhmbgnnnaa
