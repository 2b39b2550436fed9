/- Repairs (layer 7), in plain Lean: which repairs are good, the shortest ones, the cheapest ones, the strongest need. -/
import Derived.Test.YtcbeiadimchknaaGreatQp01
namespace Go.Proofs.YtcbeiadimchknaaGreat
open Go.RowKit
open Go.Sort (grow)
set_option linter.unusedVariables false
set_option linter.unusedSimpArgs false

/-- a cable's numbers -/
structure Cb where
  need : Int
  gap : Int
  doubt : Int
  joins : Int
  least : Int
deriving DecidableEq
def memN (x n : Nat) : List Nat := (List.range n).filter x.testBit
def lefN (x n : Nat) : List Nat := (List.range n).filter fun i => !x.testBit i
def bump : List Int → List Int
  | [] => []
  | [a] => [a + 1]
  | a :: b :: l => a :: bump (b :: l)
def pcs (x : Nat) : Nat → List Int
  | 0 => []
  | n + 1 => bif x.testBit n then pcs x n else (bif (n == 0 || x.testBit (n - 1)) then pcs x n ++ [1] else bump (pcs x n))
def shk (x n : Nat) : Int := max 0 (((pcs x n).length : Int) - 1)
def dbt (need : Int) (ls : List Sp) (x n : Nat) : Nat := ((List.range n).filter fun i => !x.testBit i && decide ((spAt ls i).lo < need)).length
def goodB (q : Cb) (ls : List Sp) (n x : Nat) : Bool :=
  allN n (fun i => x.testBit i || decide (q.need ≤ (spAt ls i).hi)) && (decide ((dbt q.need ls x n : Int) ≤ q.doubt) && (decide (q.least ≤ ((lefN x n).length : Int)) && (decide (shk x n ≤ q.joins) && (pcs x n).all fun k => decide (q.gap ≤ k))))
def goods (q : Cb) (ls : List Sp) (n : Nat) : List Nat := (List.range (2 ^ n)).filter (goodB q ls n)
def cntN (x n : Nat) : Nat := (memN x n).length
/-- the shortest ones, as they are collected -/
def shStep (n : Nat) (out : List Nat) (x : Nat) : List Nat :=
  match out with
  | [] => [x]
  | y :: r => if cntN x n < cntN y n then [x] else if cntN x n = cntN y n then y :: r ++ [x] else y :: r
def shL (q : Cb) (ls : List Sp) (n : Nat) : List Nat := (goods q ls n).foldl (shStep n) []
theorem snoc_ind {α : Type} {P : List α → Prop} (h0 : P []) (hs : ∀ l a, P l → P (l ++ [a])) (l : List α) : P l := by
  have : ∀ m : List α, P m.reverse := fun m => by
    induction m with
    | nil => exact h0
    | cons a m ih => rw [List.reverse_cons]; exact hs _ _ ih
  have h := this l.reverse
  rwa [List.reverse_reverse] at h
theorem sh_inv (n : Nat) (l : List Nat) : (l.foldl (shStep n) [] = [] ↔ l = []) ∧ (∀ y ∈ l.foldl (shStep n) [], y ∈ l ∧ ∀ z ∈ l, cntN y n ≤ cntN z n) ∧ ∀ z ∈ l, (∀ y ∈ l, cntN z n ≤ cntN y n) → z ∈ l.foldl (shStep n) [] := by
  induction l using snoc_ind with
  | h0 => simp
  | hs l x ih =>
    obtain ⟨i1, i2, i3⟩ := ih
    rw [List.foldl_append, List.foldl_cons, List.foldl_nil]
    cases h : l.foldl (shStep n) [] with
    | nil =>
      have hl : l = [] := i1.1 h
      subst hl
      simp [shStep]
    | cons y r =>
      rw [h] at i1 i2 i3
      have hy := i2 y (by simp)
      have hne : l ≠ [] := fun e => by rw [e] at hy; simp at hy
      unfold shStep
      simp only
      by_cases h1 : cntN x n < cntN y n
      · rw [if_pos h1]
        refine ⟨by simp, ?_, ?_⟩
        · intro z hz
          obtain rfl : z = x := by simpa using hz
          refine ⟨by simp, fun u hu => ?_⟩
          rcases List.mem_append.1 hu with hu | hu
          · have := hy.2 u hu; omega
          · obtain rfl : u = z := by simpa using hu
            exact Nat.le_refl _
        · intro z hz hm
          have hzx := hm x (by simp)
          rcases List.mem_append.1 hz with hz | hz
          · have := hy.2 z hz; omega
          · exact hz
      · rw [if_neg h1]
        by_cases h2 : cntN x n = cntN y n
        · rw [if_pos h2]
          refine ⟨by simp, ?_, ?_⟩
          · intro z hz
            rcases List.mem_append.1 hz with hz | hz
            · obtain ⟨a1, a2⟩ := i2 z hz
              refine ⟨by simp [a1], fun u hu => ?_⟩
              rcases List.mem_append.1 hu with hu | hu
              · exact a2 u hu
              · obtain rfl : u = x := by simpa using hu
                have := a2 y hy.1; omega
            · obtain rfl : z = x := by simpa using hz
              refine ⟨by simp, fun u hu => ?_⟩
              rcases List.mem_append.1 hu with hu | hu
              · have := hy.2 u hu; omega
              · obtain rfl : u = z := by simpa using hu
                exact Nat.le_refl _
          · intro z hz hm
            rcases List.mem_append.1 hz with hz | hz
            · exact List.mem_append.2 (.inl (i3 z hz fun u hu => hm u (by simp [hu])))
            · exact List.mem_append.2 (.inr hz)
        · rw [if_neg h2]
          refine ⟨by simp, ?_, ?_⟩
          · intro z hz
            obtain ⟨a1, a2⟩ := i2 z hz
            refine ⟨by simp [a1], fun u hu => ?_⟩
            rcases List.mem_append.1 hu with hu | hu
            · exact a2 u hu
            · obtain rfl : u = x := by simpa using hu
              have := a2 y hy.1
              omega
          · intro z hz hm
            rcases List.mem_append.1 hz with hz | hz
            · exact i3 z hz fun u hu => hm u (by simp [hu])
            · obtain rfl : z = x := by simpa using hz
              have := hm y (by simp [hy.1])
              omega
section
variable {q : Cb} {ls : List Sp} {n : Nat}
theorem mem_goods {x : Nat} : x ∈ goods q ls n ↔ x < 2 ^ n ∧ goodB q ls n x = true := by simp [goods, List.mem_filter]
theorem shL_nil : shL q ls n = [] ↔ goods q ls n = [] := (sh_inv n _).1
theorem shL_mem {x : Nat} (h : x ∈ shL q ls n) : (x < 2 ^ n ∧ goodB q ls n x = true) ∧ ∀ z, z < 2 ^ n → goodB q ls n z = true → cntN x n ≤ cntN z n :=
  have := (sh_inv n _).2.1 x h
  ⟨mem_goods.1 this.1, fun z h1 h2 => this.2 z (mem_goods.2 ⟨h1, h2⟩)⟩
theorem shL_of {x : Nat} (h : x < 2 ^ n) (hg : goodB q ls n x = true) (hm : ∀ z, z < 2 ^ n → goodB q ls n z = true → cntN x n ≤ cntN z n) : x ∈ shL q ls n :=
  (sh_inv n _).2.2 x (mem_goods.2 ⟨h, hg⟩) fun z hz => hm z (mem_goods.1 hz).1 (mem_goods.1 hz).2
end
/-- the least number of links that are cut out -/
def fewO (q : Cb) (ls : List Sp) (n : Nat) : Option Nat := (shL q ls n).head?.map fun x => cntN x n
section
variable {q : Cb} {ls : List Sp} {n : Nat}
theorem few_some {k : Nat} (h : fewO q ls n = some k) : (∃ x, x < 2 ^ n ∧ goodB q ls n x = true ∧ cntN x n = k) ∧ ∀ z, z < 2 ^ n → goodB q ls n z = true → k ≤ cntN z n := by
  unfold fewO at h
  cases e : shL q ls n with
  | nil => rw [e] at h; simp at h
  | cons y r =>
    rw [e] at h
    obtain rfl : cntN y n = k := by simpa using h
    obtain ⟨⟨a1, a2⟩, a3⟩ := shL_mem (q := q) (ls := ls) (n := n) (x := y) (by rw [e]; simp)
    exact ⟨⟨y, a1, a2, rfl⟩, a3⟩
theorem few_none : fewO q ls n = none ↔ ∀ z, z < 2 ^ n → goodB q ls n z = false := by
  unfold fewO
  cases e : shL q ls n with
  | nil =>
    simp only [List.head?_nil, Option.map_none, true_iff]
    intro z hz
    refine Bool.eq_false_iff.2 fun hg => ?_
    have := mem_goods.2 ⟨hz, hg⟩
    rw [shL_nil.1 e] at this
    simp at this
  | cons y r =>
    simp only [List.head?_cons, Option.map_some, reduceCtorEq, false_iff]
    intro h
    obtain ⟨⟨a1, a2⟩, -⟩ := shL_mem (q := q) (ls := ls) (n := n) (x := y) (by rw [e]; simp)
    rw [h y a1] at a2
    cases a2
theorem few_of {k : Nat} {x : Nat} (hx : x < 2 ^ n) (hg : goodB q ls n x = true) (hk : cntN x n = k) (hm : ∀ z, z < 2 ^ n → goodB q ls n z = true → k ≤ cntN z n) : fewO q ls n = some k := by
  cases e : fewO q ls n with
  | none => rw [few_none.1 e x hx] at hg; cases hg
  | some j =>
    obtain ⟨⟨y, a1, a2, a3⟩, a4⟩ := few_some e
    have h1 := a4 x hx hg
    have h2 := hm y a1 a2
    congr 1
    omega
end
/-- prices -/
def prc (link shackle : Int) (n x : Nat) : Int := link * (cntN x n : Int) + shackle * shk x n
def chStep (link shackle : Int) (n : Nat) (best : Int) (x : Nat) : Int := if best < 0 ∨ prc link shackle n x < best then prc link shackle n x else best
def chV (q : Cb) (ls : List Sp) (n : Nat) (link shackle : Int) : Int := (goods q ls n).foldl (chStep link shackle n) (-1)
theorem shk_nonneg (x n : Nat) : 0 ≤ shk x n := by unfold shk; omega
theorem prc_nonneg {link shackle : Int} (h1 : 0 ≤ link) (h2 : 0 ≤ shackle) (n x : Nat) : 0 ≤ prc link shackle n x := by
  unfold prc
  have a := Int.mul_nonneg h1 (show 0 ≤ (cntN x n : Int) by omega)
  have b := Int.mul_nonneg h2 (shk_nonneg x n)
  omega
theorem ch_inv {link shackle : Int} (h1 : 0 ≤ link) (h2 : 0 ≤ shackle) (n : Nat) (l : List Nat) :
    (l = [] ∧ l.foldl (chStep link shackle n) (-1) = -1) ∨ ((∃ x ∈ l, l.foldl (chStep link shackle n) (-1) = prc link shackle n x) ∧ ∀ x ∈ l, l.foldl (chStep link shackle n) (-1) ≤ prc link shackle n x) := by
  induction l using snoc_ind with
  | h0 => exact .inl ⟨rfl, rfl⟩
  | hs l x ih =>
    right
    rw [List.foldl_append, List.foldl_cons, List.foldl_nil]
    generalize l.foldl (chStep link shackle n) (-1) = b at ih
    unfold chStep
    by_cases hb : b < 0 ∨ prc link shackle n x < b
    · rw [if_pos hb]
      refine ⟨⟨x, by simp, rfl⟩, fun z hz => ?_⟩
      rcases List.mem_append.1 hz with hz | hz
      · rcases ih with ⟨rfl, -⟩ | ⟨⟨y, hy, e⟩, i2⟩
        · simp at hz
        · have := i2 z hz
          have := prc_nonneg h1 h2 n y
          omega
      · obtain rfl : z = x := by simpa using hz
        exact Int.le_refl _
    · rw [if_neg hb]
      rcases ih with ⟨rfl, e⟩ | ⟨⟨y, hy, e⟩, i2⟩
      · omega
      · refine ⟨⟨y, by simp [hy], e⟩, fun z hz => ?_⟩
        rcases List.mem_append.1 hz with hz | hz
        · exact i2 z hz
        · obtain rfl : z = x := by simpa using hz
          omega
section
variable {q : Cb} {ls : List Sp} {n : Nat} {link shackle : Int}
theorem ch_some (h1 : 0 ≤ link) (h2 : 0 ≤ shackle) (hne : fewO q ls n ≠ none) : (∃ x, x < 2 ^ n ∧ goodB q ls n x = true ∧ chV q ls n link shackle = prc link shackle n x) ∧ ∀ x, x < 2 ^ n → goodB q ls n x = true → chV q ls n link shackle ≤ prc link shackle n x := by
  rcases ch_inv h1 h2 n (goods q ls n) with ⟨e, -⟩ | ⟨⟨x, hx, e⟩, hm⟩
  · refine absurd (few_none.2 fun z hz => ?_) hne
    refine Bool.eq_false_iff.2 fun hg => ?_
    have := mem_goods.2 ⟨hz, hg⟩
    rw [e] at this
    simp at this
  · exact ⟨⟨x, (mem_goods.1 hx).1, (mem_goods.1 hx).2, e⟩, fun z a b => hm z (mem_goods.2 ⟨a, b⟩)⟩
theorem ch_none (hne : fewO q ls n = none) : chV q ls n link shackle = -1 := by
  have : goods q ls n = [] := by
    refine List.eq_nil_iff_forall_not_mem.2 fun x hx => ?_
    obtain ⟨a, b⟩ := mem_goods.1 hx
    rw [few_none.1 hne x a] at b
    cases b
  unfold chV
  rw [this]; rfl
end
/-- with another need -/
def Cb.at_ (q : Cb) (v : Int) : Cb := { q with need := v }
def okB_q7 (q : Cb) (ls : List Sp) (n : Nat) (cuts v : Int) : Bool := match fewO (q.at_ v) ls n with | some k => decide ((k : Int) ≤ cuts) | none => false
def cand (ls : List Sp) : List Int := 9999 :: ls.flatMap fun s => [s.lo, s.hi]
def leI_q7 (x y : Int) : Bool := decide (x ≤ y)
def strO (q : Cb) (ls : List Sp) (n : Nat) (cuts : Int) : Option Int := ((cand ls).mergeSort leI_q7).reverse.find? (okB_q7 q ls n cuts)
theorem srt_spec {l : List Int} {p : Int → Bool} {b : Int} (h : (l.mergeSort leI_q7).reverse.find? p = some b) : b ∈ l ∧ p b = true ∧ ∀ c ∈ l, p c = true → c ≤ b := by
  have h1 := List.mem_of_find?_eq_some h
  have h2 := List.find?_some h
  rw [List.mem_reverse, List.mem_mergeSort] at h1
  refine ⟨h1, h2, fun c hc hp => ?_⟩
  rw [List.find?_eq_some_iff_append] at h
  obtain ⟨-, as, bs, e, hn⟩ := h
  have hs : ((l.mergeSort leI_q7).reverse).Pairwise (fun a b => b ≤ a) := by
    rw [List.pairwise_reverse]
    refine (List.pairwise_mergeSort (le := leI_q7) ?_ ?_ l).imp fun {a b} h => by simpa [leI_q7] using h
    · intro a b c; simp only [leI_q7, decide_eq_true_eq]; omega
    · intro a b; simp only [leI_q7, Bool.or_eq_true, decide_eq_true_eq]; omega
  have hm : c ∈ as ++ b :: bs := by rw [← e, List.mem_reverse, List.mem_mergeSort]; exact hc
  rw [e] at hs
  rcases List.mem_append.1 hm with hm | hm
  · have := hn c hm
    simp [hp] at this
  · rcases List.mem_cons.1 hm with rfl | hm
    · exact Int.le_refl _
    · exact (List.pairwise_cons.1 (List.pairwise_append.1 hs).2.1).1 c hm
theorem srt_none {l : List Int} {p : Int → Bool} : (l.mergeSort leI_q7).reverse.find? p = none ↔ ∀ c ∈ l, p c = false := by
  rw [List.find?_eq_none]
  constructor
  · intro h c hc
    have := h c (by rw [List.mem_reverse, List.mem_mergeSort]; exact hc)
    simpa using this
  · intro h c hc
    rw [List.mem_reverse, List.mem_mergeSort] at hc
    rw [h c hc]; simp
theorem filt_le {n : Nat} {p r : Nat → Bool} (h : ∀ i, i < n → p i = true → r i = true) : ((List.range n).filter p).length ≤ ((List.range n).filter r).length := by
  rw [← List.countP_eq_length_filter, ← List.countP_eq_length_filter]
  exact List.countP_mono_left fun i hi hp => h i (by simpa using hi) hp
/-- less is asked, or a link holds more -/
structure Easier (q q' : Cb) (ls ls' : List Sp) (n : Nat) : Prop where
  need : q'.need ≤ q.need
  gap : q'.gap ≤ q.gap
  least : q'.least ≤ q.least
  doubt : q.doubt ≤ q'.doubt
  joins : q.joins ≤ q'.joins
  lo : ∀ i, i < n → (spAt ls i).lo ≤ (spAt ls' i).lo
  hi : ∀ i, i < n → (spAt ls i).hi ≤ (spAt ls' i).hi
theorem goodB_iff {q : Cb} {ls : List Sp} {n x : Nat} : goodB q ls n x = true ↔ (∀ i, i < n → x.testBit i = true ∨ q.need ≤ (spAt ls i).hi) ∧ (dbt q.need ls x n : Int) ≤ q.doubt ∧ q.least ≤ ((lefN x n).length : Int) ∧ shk x n ≤ q.joins ∧ ∀ k ∈ pcs x n, q.gap ≤ k := by
  simp only [goodB, Bool.and_eq_true, allN_iff, Bool.or_eq_true, decide_eq_true_eq, List.all_eq_true]
theorem good_easier {q q' : Cb} {ls ls' : List Sp} {n x : Nat} (e : Easier q q' ls ls' n) (h : goodB q ls n x = true) : goodB q' ls' n x = true := by
  simp only [goodB, Bool.and_eq_true, allN_iff, Bool.or_eq_true, decide_eq_true_eq, List.all_eq_true] at h ⊢
  obtain ⟨h1, h2, h3, h4, h5⟩ := h
  have d : dbt q'.need ls' x n ≤ dbt q.need ls x n := filt_le fun i hi hp => by
    simp only [Bool.and_eq_true, decide_eq_true_eq] at hp ⊢
    have := e.lo i hi
    have := e.need
    exact ⟨hp.1, by omega⟩
  have a1 := e.need
  have a2 := e.gap
  have a3 := e.least
  have a4 := e.doubt
  have a5 := e.joins
  refine ⟨fun i hi => (h1 i hi).imp id fun h => ?_, by omega, by omega, by omega, fun k hk => ?_⟩
  · have := e.hi i hi; omega
  · have := h5 k hk; omega
section
variable {q q' : Cb} {ls ls' : List Sp} {n : Nat}
theorem few_easier (e : Easier q q' ls ls' n) {a : Nat} (h : fewO q ls n = some a) : ∃ b, fewO q' ls' n = some b ∧ b ≤ a := by
  obtain ⟨⟨x, h1, h2, h3⟩, -⟩ := few_some h
  cases hb : fewO q' ls' n with
  | none =>
    have := few_none.1 hb x h1
    rw [good_easier e h2] at this
    cases this
  | some b => exact ⟨b, rfl, h3 ▸ (few_some hb).2 x h1 (good_easier e h2)⟩
theorem ch_easier (e : Easier q q' ls ls' n) {link shackle : Int} (h1 : 0 ≤ link) (h2 : 0 ≤ shackle) (hne : fewO q ls n ≠ none) : chV q' ls' n link shackle ≤ chV q ls n link shackle := by
  obtain ⟨⟨x, a1, a2, a3⟩, -⟩ := ch_some h1 h2 hne
  have hne' : fewO q' ls' n ≠ none := by
    cases h : fewO q ls n with
    | none => exact absurd h hne
    | some a =>
      obtain ⟨b, hb, -⟩ := few_easier e h
      rw [hb]; simp
  rw [a3]
  exact (ch_some h1 h2 hne').2 x a1 (good_easier e a2)
theorem ok_easier {cuts v v' : Int} (e : Easier (q.at_ v) (q'.at_ v') ls ls' n) (h : okB_q7 q ls n cuts v = true) : okB_q7 q' ls' n cuts v' = true := by
  unfold okB_q7 at h ⊢
  cases hf : fewO (q.at_ v) ls n with
  | none => rw [hf] at h; cases h
  | some a =>
    rw [hf] at h
    obtain ⟨b, hb, hle⟩ := few_easier e hf
    rw [hb]
    simp at h ⊢
    omega
end
/-- the links of a valid cable -/
def OkSp (ls : List Sp) (n : Nat) : Prop := ls.length = n ∧ ∀ i, i < n → 0 ≤ (spAt ls i).lo ∧ (spAt ls i).lo ≤ (spAt ls i).hi ∧ (spAt ls i).hi ≤ 9999
theorem spAt_lt {ls : List Sp} {i : Nat} (h : i < ls.length) : spAt ls i = ls[i] := by
  unfold spAt; rw [List.getD_eq_getElem?_getD, List.getElem?_eq_getElem h]; rfl
section
variable {q : Cb} {ls : List Sp} {n : Nat} {cuts : Int}
theorem cand_mem {v : Int} : v ∈ cand ls ↔ v = 9999 ∨ ∃ i, i < ls.length ∧ (v = (spAt ls i).lo ∨ v = (spAt ls i).hi) := by
  unfold cand
  rw [List.mem_cons, List.mem_flatMap]
  refine or_congr Iff.rfl ?_
  constructor
  · rintro ⟨s, hs, hv⟩
    obtain ⟨i, hi, rfl⟩ := List.getElem_of_mem hs
    refine ⟨i, hi, ?_⟩
    rw [spAt_lt hi]
    simpa using hv
  · rintro ⟨i, hi, hv⟩
    rw [spAt_lt hi] at hv
    exact ⟨ls[i], List.getElem_mem hi, by simpa using hv⟩
theorem at_easier {v v' : Int} (h : v' ≤ v) : Easier (q.at_ v) (q.at_ v') ls ls n :=
  ⟨h, Int.le_refl _, Int.le_refl _, Int.le_refl _, Int.le_refl _, fun _ _ => Int.le_refl _, fun _ _ => Int.le_refl _⟩
theorem ok_mono {v v' : Int} (h : v' ≤ v) (hv : okB_q7 q ls n cuts v = true) : okB_q7 q ls n cuts v' = true := ok_easier (at_easier h) hv
theorem good_step {v : Int} (hl : ls.length = n) (hv : v ∉ cand ls) (x : Nat) : goodB (q.at_ (v + 1)) ls n x = goodB (q.at_ v) ls n x := by
  have hne : ∀ i, i < n → v ≠ (spAt ls i).lo ∧ v ≠ (spAt ls i).hi := fun i hi =>
    ⟨fun e => hv (cand_mem.2 (.inr ⟨i, by omega, .inl e⟩)), fun e => hv (cand_mem.2 (.inr ⟨i, by omega, .inr e⟩))⟩
  have d : dbt (v + 1) ls x n = dbt v ls x n := by
    unfold dbt
    congr 1
    refine List.filter_congr fun i hi => ?_
    have := (hne i (by simpa using hi)).1
    congr 1
    exact decide_eq_decide.2 (by omega)
  rw [Bool.eq_iff_iff, goodB_iff, goodB_iff]
  refine and_congr (forall_congr' fun i => forall_congr' fun hi => or_congr Iff.rfl ?_) (and_congr ?_ Iff.rfl)
  · have := (hne i hi).2
    show v + 1 ≤ _ ↔ v ≤ _
    omega
  · show ((dbt (v + 1) ls x n : Nat) : Int) ≤ _ ↔ ((dbt v ls x n : Nat) : Int) ≤ _
    rw [d]
    exact Iff.rfl
theorem few_congr {q q' : Cb} {ls ls' : List Sp} (h : ∀ x, x < 2 ^ n → goodB q ls n x = goodB q' ls' n x) : fewO q ls n = fewO q' ls' n := by
  have : goods q ls n = goods q' ls' n := List.filter_congr fun x hx => h x (by simpa using hx)
  unfold fewO shL
  rw [this]
theorem ok_up (hs : OkSp ls n) : ∀ (k : Nat) (v : Int), v + k = 9999 → okB_q7 q ls n cuts v = true → ∃ c ∈ cand ls, v ≤ c ∧ okB_q7 q ls n cuts c = true := by
  intro k
  induction k with
  | zero => intro v hv h; exact ⟨v, cand_mem.2 (.inl (by omega)), Int.le_refl _, h⟩
  | succ k ih =>
    intro v hv h
    by_cases hc : v ∈ cand ls
    · exact ⟨v, hc, Int.le_refl _, h⟩
    · have e : okB_q7 q ls n cuts (v + 1) = okB_q7 q ls n cuts v := by
        unfold okB_q7
        rw [few_congr fun x _ => good_step hs.1 hc x]
      obtain ⟨c, h1, h2, h3⟩ := ih (v + 1) (by omega) (by rw [e]; exact h)
      exact ⟨c, h1, by omega, h3⟩
/-- just the needs up to Strong can be met -/
theorem strong_iff (hs : OkSp ls n) {v : Int} (hv : v ≤ 9999) : okB_q7 q ls n cuts v = true ↔ ∃ b, strO q ls n cuts = some b ∧ v ≤ b := by
  constructor
  · intro h
    obtain ⟨c, h1, h2, h3⟩ := ok_up hs (9999 - v).toNat v (by omega) h
    cases e : strO q ls n cuts with
    | none =>
      have := srt_none.1 e c h1
      rw [h3] at this; cases this
    | some b =>
      have := (srt_spec e).2.2 c h1 h3
      exact ⟨b, rfl, by omega⟩
  · rintro ⟨b, h1, h2⟩
    exact ok_mono h2 (srt_spec h1).2.1
theorem str_bd (hs : OkSp ls n) {b : Int} (h : strO q ls n cuts = some b) : 0 ≤ b ∧ b ≤ 9999 := by
  have h1 := (srt_spec h).1
  rcases cand_mem.1 h1 with rfl | ⟨i, hi, e⟩
  · omega
  · have := hs.2 i (by have := hs.1; omega)
    rcases e with rfl | rfl <;> omega
theorem str_unique (hs : OkSp ls n) {b : Int} (hb : b ≤ 9999) (hok : okB_q7 q ls n cuts b = true) (hm : ∀ v, v ≤ 9999 → okB_q7 q ls n cuts v = true → v ≤ b) : strO q ls n cuts = some b := by
  obtain ⟨c, h1, h2⟩ := (strong_iff hs hb).1 hok
  have h3 := hm c (str_bd hs h1).2 (srt_spec h1).2.1
  rw [h1]
  congr 1
  omega
end

end Go.Proofs.YtcbeiadimchknaaGreat
