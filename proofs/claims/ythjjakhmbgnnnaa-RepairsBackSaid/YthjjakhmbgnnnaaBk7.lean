/- The other way (layer 7), in plain words: what RepairsBack asks. -/
import Derived.Test.YthjjakhmbgnnnaaEl7
import Derived.Test.YthjjakhmbgnnnaaRk7
import Derived.Test.YthjjakhmbgnnnaaLv7
namespace Go.Proofs.Ythjjakhmbgnnnaa
open Go.RowKit
open Go.Sort (grow)
set_option linter.unusedVariables false

/-- the lengths of the pieces, of the marks from the last to the first -/
def pcR : List Bool → List Int
  | [] => []
  | true :: l => pcR l
  | false :: l => bif l.head?.getD true then pcR l ++ [1] else bump (pcR l)
def bumpH : List Int → List Int
  | [] => []
  | a :: l => (a + 1) :: l
theorem bumpH_app {a b : List Int} (h : a ≠ []) : bumpH (a ++ b) = bumpH a ++ b := by
  cases a with
  | nil => exact absurd rfl h
  | cons x a => rfl
theorem bump_cons {x : Int} {l : List Int} (h : l ≠ []) : bump (x :: l) = x :: bump l := by
  cases l with
  | nil => exact absurd rfl h
  | cons y l => rfl
theorem bump_bumpH (l : List Int) : bump (bumpH l) = bumpH (bump l) := by
  cases l with
  | nil => rfl
  | cons a l =>
    cases l with
    | nil => rfl
    | cons b l => rfl
theorem bump_ne {l : List Int} (h : l ≠ []) : bump l ≠ [] := by
  cases l with
  | nil => exact absurd rfl h
  | cons a l => cases l <;> simp [bump]
theorem bump_rev (l : List Int) : (bump l).reverse = bumpH l.reverse := by
  induction l using snoc_ind with
  | h0 => rfl
  | hs l a ih =>
    have e : bump (l ++ [a]) = l ++ [a + 1] := by
      clear ih
      induction l with
      | nil => rfl
      | cons b l ih =>
        rw [List.cons_append, bump_cons (by simp), ih]; rfl
    rw [e, List.reverse_append, List.reverse_append]; rfl
theorem pcR_ne {l : List Bool} (h : false ∈ l) : pcR l ≠ [] := by
  induction l with
  | nil => simp at h
  | cons b l ih =>
    cases b with
    | true => exact ih (by simpa using h)
    | false =>
      unfold pcR
      cases e : l.head?.getD true
      · rw [cond_false]
        refine bump_ne (ih ?_)
        cases l with
        | nil => simp at e
        | cons c l => obtain rfl : c = false := by simpa using e
                      simp
      · rw [cond_true]; simp
theorem last_mem {l : List Bool} (h : l.getLast?.getD true = false) : false ∈ l := by
  cases e : l.getLast? with
  | none => rw [e] at h; simp at h
  | some c =>
    rw [e] at h
    obtain rfl : c = false := by simpa using h
    exact List.mem_of_getLast? e
theorem pcR_snoc (l : List Bool) (b : Bool) : pcR (l ++ [b]) = bif b then pcR l else bif l.getLast?.getD true then 1 :: pcR l else bumpH (pcR l) := by
  induction l with
  | nil => cases b <;> rfl
  | cons a l ih =>
    cases l with
    | nil => cases a <;> cases b <;> rfl
    | cons c l =>
      have hl : (a :: c :: l).getLast?.getD true = (c :: l).getLast?.getD true := by rw [List.getLast?_cons_cons]
      have hh : ((c :: l) ++ [b]).head?.getD true = (c :: l).head?.getD true := rfl
      rw [hl]
      cases a with
      | true =>
        show pcR ((c :: l) ++ [b]) = _
        rw [ih]; rfl
      | false =>
        show (bif ((c :: l) ++ [b]).head?.getD true then pcR ((c :: l) ++ [b]) ++ [1] else bump (pcR ((c :: l) ++ [b]))) = _
        have hp : pcR (false :: c :: l) = (bif (c :: l).head?.getD true then pcR (c :: l) ++ [1] else bump (pcR (c :: l))) := rfl
        rw [hh, ih, hp]
        cases b
        · simp only [cond_false]
          cases e1 : (c :: l).getLast?.getD true
          · have hne := pcR_ne (last_mem e1)
            cases e2 : (c :: l).head?.getD true
            · simp only [cond_false]; exact bump_bumpH _
            · simp only [cond_true, cond_false]; exact (bumpH_app hne).symm
          · cases e2 : (c :: l).head?.getD true
            · simp only [cond_false, cond_true]
              refine bump_cons (pcR_ne (l := c :: l) ?_)
              obtain rfl : c = false := by simpa using e2
              simp
            · simp only [cond_true]; rfl
        · simp only [cond_true]
theorem pcR_rev (l : List Bool) : pcR l.reverse = (pcR l).reverse := by
  induction l with
  | nil => rfl
  | cons b l ih =>
    rw [List.reverse_cons, pcR_snoc, ih, List.getLast?_reverse]
    cases b
    · show _ = (bif l.head?.getD true then pcR l ++ [1] else bump (pcR l)).reverse
      cases l.head?.getD true
      · simp only [cond_false]; exact (bump_rev _).symm
      · simp only [cond_false, cond_true]; rw [List.reverse_append]; rfl
    · rfl
def bitsL (x n : Nat) : List Bool := (List.range n).map x.testBit
theorem pcs_pcR (x n : Nat) : pcs x n = pcR (bitsL x n).reverse := by
  induction n with
  | zero => rfl
  | succ n ih =>
    have e : (bitsL x (n + 1)).reverse = x.testBit n :: (bitsL x n).reverse := by
      unfold bitsL; rw [List.range_succ, List.map_append, List.reverse_append]; rfl
    have hh : (bitsL x n).reverse.head?.getD true = (n == 0 || x.testBit (n - 1)) := by
      cases n with
      | zero => rfl
      | succ n => unfold bitsL; rw [List.range_succ, List.map_append, List.reverse_append]; simp
    rw [e, pcs]
    cases x.testBit n
    · rw [cond_false, ← hh, ih]; rfl
    · rw [cond_true, ih]; rfl
/-- a set of links, seen from the other end -/
def rv (x n : Nat) : Nat := (BitVec.ofNat n x).reverse.toNat
theorem rv_lt (x n : Nat) : rv x n < 2 ^ n := BitVec.isLt _
theorem rv_bit {x n i : Nat} (h : i < n) : (rv x n).testBit i = x.testBit (n - 1 - i) := by
  unfold rv
  rw [BitVec.testBit_toNat, BitVec.getLsbD_reverse, BitVec.getMsbD, BitVec.getLsbD_ofNat]
  simp [h, show n - 1 - i < n by omega]
theorem rv_rv {x n : Nat} (h : x < 2 ^ n) : rv (rv x n) n = x := by
  refine Nat.eq_of_testBit_eq fun i => ?_
  by_cases hi : i < n
  · rw [rv_bit hi, rv_bit (by omega)]; congr 1; omega
  · have h1 : 2 ^ n ≤ 2 ^ i := Nat.pow_le_pow_right (by omega) (by omega)
    rw [Nat.testBit_lt_two_pow (by have := rv_lt (rv x n) n; omega), Nat.testBit_lt_two_pow (by omega)]
theorem range_rev (n : Nat) : (List.range n).reverse = (List.range n).map fun i => n - 1 - i := by
  refine List.ext_getElem (by simp) fun i h1 h2 => ?_
  simp
theorem bitsL_rv (x n : Nat) : bitsL (rv x n) n = (bitsL x n).reverse := by
  unfold bitsL
  rw [← List.map_reverse, range_rev, List.map_map]
  refine List.map_congr_left fun i hi => ?_
  rw [rv_bit (by simpa using hi)]; rfl
theorem pcs_rv (x n : Nat) : pcs (rv x n) n = (pcs x n).reverse := by
  rw [pcs_pcR, pcs_pcR, bitsL_rv, pcR_rev (bitsL x n).reverse]
theorem filt_rv {n : Nat} (p r : Nat → Bool) (h : ∀ i, i < n → p i = r (n - 1 - i)) : ((List.range n).filter p).length = ((List.range n).filter r).length := by
  rw [← List.countP_eq_length_filter, ← List.countP_eq_length_filter, ← List.countP_reverse (l := List.range n) (p := r), range_rev, List.countP_map]
  refine List.countP_congr fun i hi => ?_
  rw [h i (by simpa using hi)]; exact Iff.rfl
theorem cnt_rv (x n : Nat) : cntN (rv x n) n = cntN x n := filt_rv _ _ fun i hi => rv_bit hi
theorem shk_rv (x n : Nat) : shk (rv x n) n = shk x n := by unfold shk; rw [pcs_rv, List.length_reverse]
theorem prc_rv (a b : Int) (x n : Nat) : prc a b n (rv x n) = prc a b n x := by unfold prc; rw [cnt_rv, shk_rv]
theorem spAt_rev {ls : List Sp} {n i : Nat} (hl : ls.length = n) (h : i < n) : spAt ls.reverse i = spAt ls (n - 1 - i) := by
  subst hl
  rw [spAt_lt (by simpa using h), spAt_lt (by omega), List.getElem_reverse]
section
variable {q : Cb} {ls : List Sp} {n : Nat}
theorem good_rv (hl : ls.length = n) (x : Nat) : goodB q ls.reverse n (rv x n) = goodB q ls n x := by
  have hd : dbt q.need ls.reverse (rv x n) n = dbt q.need ls x n := filt_rv _ _ fun i hi => by rw [rv_bit hi, spAt_rev hl hi]
  have hf : (lefN (rv x n) n).length = (lefN x n).length := filt_rv _ _ fun i hi => by rw [rv_bit hi]
  rw [Bool.eq_iff_iff, goodB_iff, goodB_iff, hd, hf, shk_rv, pcs_rv]
  refine and_congr ⟨fun h i hi => ?_, fun h i hi => ?_⟩ (and_congr Iff.rfl (and_congr Iff.rfl (and_congr Iff.rfl ⟨fun h k hk => h k (by simpa using hk), fun h k hk => h k (by simpa using hk)⟩)))
  · have := h (n - 1 - i) (by omega)
    rw [rv_bit (by omega), spAt_rev hl (by omega), show n - 1 - (n - 1 - i) = i by omega] at this
    exact this
  · rw [rv_bit hi, spAt_rev hl hi]; exact h _ (by omega)
theorem good_rv' (hl : ls.length = n) {x : Nat} (hx : x < 2 ^ n) : goodB q ls.reverse n x = goodB q ls n (rv x n) := by
  rw [← good_rv hl (rv x n), rv_rv hx]
theorem few_rv (hl : ls.length = n) : fewO q ls.reverse n = fewO q ls n := by
  cases e : fewO q ls n with
  | none => exact few_none.2 fun z hz => by rw [good_rv' hl hz]; exact few_none.1 e _ (rv_lt z n)
  | some k =>
    obtain ⟨⟨x, h1, h2, h3⟩, h4⟩ := few_some e
    exact few_of (rv_lt x n) (by rw [good_rv hl]; exact h2) (by rw [cnt_rv]; exact h3) fun z hz hg => by
      rw [good_rv' hl hz] at hg
      have := h4 _ (rv_lt z n) hg
      rwa [cnt_rv] at this
theorem sh_rv (hl : ls.length = n) {x : Nat} (hx : x < 2 ^ n) : x ∈ shL q ls.reverse n ↔ rv x n ∈ shL q ls n := by
  constructor
  · intro h
    obtain ⟨⟨h1, h2⟩, h3⟩ := shL_mem h
    refine shL_of (rv_lt x n) (by rw [← good_rv' hl hx]; exact h2) fun z hz hg => ?_
    have := h3 (rv z n) (rv_lt z n) (by rw [good_rv hl]; exact hg)
    rw [cnt_rv] at this ⊢; exact this
  · intro h
    obtain ⟨⟨h1, h2⟩, h3⟩ := shL_mem h
    refine shL_of hx (by rw [good_rv' hl hx]; exact h2) fun z hz hg => ?_
    have := h3 (rv z n) (rv_lt z n) (by rw [← good_rv' hl hz]; exact hg)
    rw [cnt_rv, cnt_rv] at this; exact this
theorem sh_emp (hl : ls.length = n) : (shL q ls.reverse n = []) ↔ shL q ls n = [] := by
  have h1 := few_rv (q := q) hl
  unfold fewO at h1
  constructor
  · intro h; rw [h] at h1
    cases e : shL q ls n with
    | nil => rfl
    | cons y r => rw [e] at h1; simp at h1
  · intro h; rw [h] at h1
    cases e : shL q ls.reverse n with
    | nil => rfl
    | cons y r => rw [e] at h1; simp at h1
theorem ck_rv (hl : ls.length = n) : ckC n ls.reverse q = ckC n ls q := by
  unfold ckC
  congr 1
  rw [Bool.eq_iff_iff, allN_iff, allN_iff]
  constructor
  · intro h i hi
    have := h (n - 1 - i) (by omega)
    rw [spAt_rev hl (by omega), show n - 1 - (n - 1 - i) = i by omega] at this
    exact this
  · intro h i hi; rw [spAt_rev hl hi]; exact h _ (by omega)
theorem er_rv (hl : ls.length = n) : erS n ls.reverse q = erS n ls q := by
  unfold erS
  rw [ck_rv hl]
  congr 2
  rw [Bool.eq_iff_iff, List.isEmpty_iff, List.isEmpty_iff]; exact sh_emp hl
theorem pl_rv (hl : ls.length = n) : (plC n ls.reverse q).length = (plC n ls q).length := by
  cases h : ckC n ls q
  · unfold plC; rw [ck_rv hl, h]; rfl
  · have h' : ckC n ls.reverse q = true := by rw [ck_rv hl]; exact h
    by_cases hne : fewO q ls n = none
    · have h1 : shL q ls n = [] := by
        unfold fewO at hne
        cases e : shL q ls n with
        | nil => rfl
        | cons y r => rw [e] at hne; simp at hne
      unfold plC
      rw [h, h', (sh_emp hl).2 h1, h1]
    · have a := pl_few h hne
      have b := pl_few h' (by rw [few_rv hl]; exact hne)
      rw [few_rv hl, a] at b
      exact (Option.some.inj b).symm
theorem chV_rv (hl : ls.length = n) {a b : Int} (h0 : 0 ≤ a) (h1 : 0 ≤ b) : chV q ls.reverse n a b = chV q ls n a b := by
  by_cases hne : fewO q ls n = none
  · rw [ch_none hne, ch_none (by rw [few_rv hl]; exact hne)]
  · obtain ⟨⟨x, x1, x2, x3⟩, x4⟩ := ch_some h0 h1 hne
    obtain ⟨⟨y, y1, y2, y3⟩, y4⟩ := ch_some (ls := ls.reverse) h0 h1 (by rw [few_rv hl]; exact hne)
    have a1 := x4 (rv y n) (rv_lt y n) (by rw [← good_rv' hl y1]; exact y2)
    have a2 := y4 (rv x n) (rv_lt x n) (by rw [good_rv hl]; exact x2)
    rw [prc_rv] at a1 a2
    omega
theorem chR_rv (hl : ls.length = n) (a b : Int) : chR n ls.reverse q a b = chR n ls q a b := by
  unfold chR
  rw [ck_rv hl]
  congr 1
  cases h : wi a 0 999 && wi b 0 999
  · rfl
  · simp only [Bool.and_eq_true] at h
    rw [chV_rv hl (wi_true.1 h.1).1 (wi_true.1 h.2).1]
theorem ok_rv (hl : ls.length = n) (cuts v : Int) : okB q ls.reverse n cuts v = okB q ls n cuts v := by
  unfold okB; rw [few_rv hl]
theorem stO_rv (hl : ls.length = n) (cuts : Int) : strO q ls.reverse n cuts = strO q ls n cuts := by
  have hc : ∀ c, c ∈ cand ls.reverse ↔ c ∈ cand ls := fun c => by unfold cand; simp
  have hk : okB q ls.reverse n cuts = okB q ls n cuts := funext fun v => ok_rv hl cuts v
  unfold strO
  rw [hk]
  cases e : ((cand ls).mergeSort leI).reverse.find? (okB q ls n cuts) with
  | none => exact srt_none.2 fun c h => srt_none.1 e c ((hc c).1 h)
  | some b =>
    obtain ⟨h1, h2, h3⟩ := srt_spec e
    cases e' : ((cand ls.reverse).mergeSort leI).reverse.find? (okB q ls n cuts) with
    | none => have := srt_none.1 e' b ((hc b).2 h1); rw [h2] at this; cases this
    | some b' =>
      obtain ⟨k1, k2, k3⟩ := srt_spec e'
      have := h3 b' ((hc b').1 k1) k2
      have := k3 b ((hc b).2 h1) h2
      congr 1; omega
theorem stR_rv (hl : ls.length = n) (cuts : Int) : stR n ls.reverse q cuts = stR n ls q cuts := by unfold stR; rw [ck_rv hl, stO_rv hl]
/-- numbers of links, seen from the other end -/
def bkN (n : Nat) (L : List Nat) : List Nat := (L.map fun i => n - 1 - i).reverse
def bkL (n : Nat) (l : List Int) : List Int := (l.map fun v => (n : Int) - 1 - v).reverse
theorem bk_ints {L : List Nat} (h : ∀ i ∈ L, i < n) : bkL n (ints L) = ints (bkN n L) := by
  unfold bkL bkN ints
  rw [← List.map_reverse, ← List.map_reverse, ← List.map_reverse, List.map_map, List.map_map]
  refine List.map_congr_left fun i hi => ?_
  have := h i (by simpa using hi)
  simp only [Function.comp]; omega
theorem bk_srt {L : List Nat} (h : ∀ i ∈ L, i < n) (hs : L.Pairwise (· < ·)) : (bkN n L).Pairwise (· < ·) := by
  unfold bkN
  rw [List.pairwise_reverse, List.pairwise_map]
  refine List.Pairwise.imp_of_mem ?_ hs
  intro a b ha hb hab
  have := h a ha
  have := h b hb
  omega
theorem bk_mem {L : List Nat} (h : ∀ i ∈ L, i < n) {j : Nat} : j ∈ bkN n L ↔ j < n ∧ n - 1 - j ∈ L := by
  unfold bkN
  rw [List.mem_reverse, List.mem_map]
  constructor
  · rintro ⟨i, hi, rfl⟩
    have := h i hi
    exact ⟨by omega, by rwa [show n - 1 - (n - 1 - i) = i by omega]⟩
  · rintro ⟨h1, h2⟩; exact ⟨_, h2, by omega⟩
theorem mu_iff {i : Nat} : i ∈ muL n ls q ↔ ckC n ls q = true ∧ shL q ls n ≠ [] ∧ i < n ∧ ∀ x ∈ shL q ls n, x.testBit i = true := by
  unfold muL
  cases ckC n ls q
  · simp
  · rw [cond_true]
    cases e : shL q ls n with
    | nil => simp
    | cons y r =>
      simp only [memN, List.mem_filter, List.mem_range, and_bit, Bool.and_eq_true, List.all_eq_true, true_and, ne_eq, reduceCtorEq, not_false_eq_true]
      exact and_congr Iff.rfl ⟨fun h => h.2, fun h => ⟨h y (by simp), h⟩⟩
theorem sp_iff {i : Nat} : i ∈ spL n ls q ↔ ckC n ls q = true ∧ shL q ls n ≠ [] ∧ i < n ∧ ∀ x ∈ shL q ls n, x.testBit i = false := by
  unfold spL
  cases ckC n ls q
  · simp
  · rw [cond_true]
    cases e : shL q ls n with
    | nil => simp
    | cons y r =>
      simp only [lefN, List.mem_filter, List.mem_range, or_bit, Bool.not_eq_true', List.any_eq_false, true_and, ne_eq, reduceCtorEq, not_false_eq_true, Bool.not_eq_true]
theorem mu_lt : ∀ i ∈ muL n ls q, i < n := fun i hi => (mu_iff.1 hi).2.2.1
theorem sp_lt : ∀ i ∈ spL n ls q, i < n := fun i hi => (sp_iff.1 hi).2.2.1
theorem mu_srt : (muL n ls q).Pairwise (· < ·) := by
  unfold muL
  cases ckC n ls q
  · exact List.Pairwise.nil
  · rw [cond_true]
    cases shL q ls n with
    | nil => exact List.Pairwise.nil
    | cons y r => exact List.Pairwise.filter _ List.pairwise_lt_range
theorem sp_srt : (spL n ls q).Pairwise (· < ·) := by
  unfold spL
  cases ckC n ls q
  · exact List.Pairwise.nil
  · rw [cond_true]
    cases shL q ls n with
    | nil => exact List.Pairwise.nil
    | cons y r => exact List.Pairwise.filter _ List.pairwise_lt_range
theorem sh_lt {x : Nat} (h : x ∈ shL q ls n) : x < 2 ^ n := (shL_mem h).1.1
theorem all_rv (hl : ls.length = n) {b : Bool} {i : Nat} (hi : i < n) : (∀ x ∈ shL q ls.reverse n, x.testBit i = b) ↔ ∀ x ∈ shL q ls n, x.testBit (n - 1 - i) = b := by
  constructor
  · intro h x hx
    have := h (rv x n) ((sh_rv hl (rv_lt x n)).2 (by rw [rv_rv (sh_lt hx)]; exact hx))
    rwa [rv_bit hi] at this
  · intro h x hx
    have := h (rv x n) ((sh_rv hl (sh_lt hx)).1 hx)
    rwa [rv_bit (by omega), show n - 1 - (n - 1 - i) = i by omega] at this
theorem mu_rv (hl : ls.length = n) : muL n ls.reverse q = bkN n (muL n ls q) := by
  refine sorted_ext _ _ mu_srt (bk_srt mu_lt mu_srt) fun i => ?_
  rw [bk_mem mu_lt, mu_iff, mu_iff, ck_rv hl, ne_eq, sh_emp hl]
  constructor
  · rintro ⟨a, b, c, d⟩; exact ⟨c, a, b, by omega, (all_rv hl c).1 d⟩
  · rintro ⟨c, a, b, -, d⟩; exact ⟨a, b, c, (all_rv hl c).2 d⟩
theorem sp_rv (hl : ls.length = n) : spL n ls.reverse q = bkN n (spL n ls q) := by
  refine sorted_ext _ _ sp_srt (bk_srt sp_lt sp_srt) fun i => ?_
  rw [bk_mem sp_lt, sp_iff, sp_iff, ck_rv hl, ne_eq, sh_emp hl]
  constructor
  · rintro ⟨a, b, c, d⟩; exact ⟨c, a, b, by omega, (all_rv hl c).1 d⟩
  · rintro ⟨c, a, b, -, d⟩; exact ⟨a, b, c, (all_rv hl c).2 d⟩
end
theorem iAt_bk {n m : Nat} {l : List Int} (hl : l.length = m) {k : Nat} (hk : k < m) : iAt (bkL n l) k = (n : Int) - 1 - iAt l (m - 1 - k) := by
  subst hl
  have h1 : ∀ (L : List Int) (i : Nat) (h : i < L.length), iAt L i = L[i] := fun L i h => by unfold iAt; rw [List.getD_eq_getElem?_getD, List.getElem?_eq_getElem h]; rfl
  rw [h1 _ _ (by simpa [bkL] using hk), h1 _ _ (by omega)]
  simp [bkL, List.getElem_reverse]
theorem isR_bk {n m : Nat} {l : List Int} (hl : l.length = m) (h : isR n m l = true) : isR n m (bkL n l) = true := by
  refine allN_iff.2 fun k hk => ?_
  have h1 := isR_nn h (m - 1 - k) (by omega)
  simp only [stO, Bool.and_eq_true, Bool.not_eq_true', Bool.and_eq_false_iff, decide_eq_false_iff_not]
  rw [iAt_bk hl hk]
  refine ⟨wi_true.2 (by omega), ?_⟩
  by_cases h0 : 0 < k
  · right
    rw [iAt_bk hl (by omega)]
    have := isR_lt h (m - 1 - (k - 1)) (m - 1 - k) (by omega) (by omega)
    omega
  · exact .inl h0
theorem bk_len (n : Nat) (l : List Int) : (bkL n l).length = l.length := by simp [bkL]
theorem ofK_bk {n m : Nat} {l : List Int} (hl : l.length = m) (h : isR n m l = true) : ofK (bkL n l) m = rv (ofK l m) n := by
  have h' := isR_bk hl h
  refine Nat.eq_of_testBit_eq fun i => ?_
  by_cases hi : i < n
  · rw [rv_bit hi, ofK_bit fun j hj => (isR_nn h' j hj).1, ofK_bit fun j hj => (isR_nn h j hj).1, Bool.eq_iff_iff, anyN_iff, anyN_iff]
    constructor
    · rintro ⟨k, hk, e⟩
      rw [iAt_bk hl hk] at e
      exact ⟨m - 1 - k, by omega, by simp at e ⊢; omega⟩
    · rintro ⟨k, hk, e⟩
      refine ⟨m - 1 - k, by omega, ?_⟩
      rw [iAt_bk hl (by omega), show m - 1 - (m - 1 - k) = k by omega]
      simp at e ⊢; omega
  · have h1 : 2 ^ n ≤ 2 ^ i := Nat.pow_le_pow_right (by omega) (by omega)
    rw [Nat.testBit_lt_two_pow (by have := ofK_lt2 h'; omega), Nat.testBit_lt_two_pow (by have := rv_lt (ofK l m) n; omega)]
theorem back_vals {n m : Nat} {ls : List Sp} {q : Cb} {l : List Int} (h : ckC n ls q = true) (hn : ls.length = n) (hl : l.length = m) (hr : isR n m l = true) :
    gvE n m ls q l = 0 ∧ gvE n m ls.reverse q (bkL n l) = 0 ∧ gvG n m ls.reverse q (bkL n l) = gvG n m ls q l ∧ gvS n m ls.reverse q (bkL n l) = gvS n m ls q l := by
  have h' : ckC n ls.reverse q = true := by rw [ck_rv hn]; exact h
  have hr' := isR_bk hl hr
  obtain ⟨a1, a2⟩ := gv_good h hr
  obtain ⟨b1, b2⟩ := gv_good h' hr'
  refine ⟨a1, b1, ?_, ?_⟩
  · rw [a2, b2, ofK_bk hl hr, good_rv hn]
  · unfold gvS
    rw [a1, b1, gv_ok h hr, gv_ok h' hr']
    simp only [ofK_bk hl hr, shk_rv]

end Go.Proofs.Ythjjakhmbgnnnaa
