/- The plain law of layer 4: what the specification finds over all truths is what the program finds over bundles of them. -/
import Derived.Test.YtmmgkmdfecnkdaaQa35
import Derived.Test.YtmmgkmdfecnkdaaQa36
import Derived.Test.YtmmgkmdfecnkdaaQa37
namespace Go.Proofs.Ytmmgkmdfecnkdaa
open Go.RowKit
open Go.Sort (grow)
set_option linter.unusedVariables false
set_option linter.unusedSimpArgs false

theorem tuAt_mem {ts : List (Int × Int × W4)} {k : Nat} (h : k < ts.length) : tuAt ts k ∈ ts := by
  unfold tuAt; rw [List.getD_eq_getElem?_getD, List.getElem?_eq_getElem h]; exact List.getElem_mem h
theorem mem_tuAt {ts : List (Int × Int × W4)} {t : Int × Int × W4} (h : t ∈ ts) : ∃ k, k < ts.length ∧ tuAt ts k = t := by
  obtain ⟨k, hk, e⟩ := List.getElem_of_mem h
  exact ⟨k, hk, by unfold tuAt; rw [List.getD_eq_getElem?_getD, List.getElem?_eq_getElem hk]; exact e⟩
theorem trl4_nil {p : P4} : trl4 p = [] ↔ tr4 p = [] := by
  constructor
  · intro h
    cases e : tr4 p with
    | nil => rfl
    | cons x l =>
      obtain ⟨u, b, a, ht⟩ := tr4_any (p := p) (by rw [e]; simp)
      have := mem_trl4.2 (show Tr4 p ((b, a, u) : Int × Int × W4).2.2 b a from ht)
      rw [h] at this
      cases this
  · intro h
    cases e : trl4 p with
    | nil => rfl
    | cons t l => exact absurd h (tr4_ne (mem_trl4.1 (by rw [e]; exact List.mem_cons_self ..)))
/-- the truths that the specification hands on -/
def knL4 (p : P4) (is : Bool) : List (Int × Int × W4) := bif op4 p is == 0 then trl4 p else []
theorem knL4_yes {p : P4} {is : Bool} (h : op4 p is = 0) : knL4 p is = trl4 p := by unfold knL4; rw [h]; rfl
theorem knL4_no {p : P4} {is : Bool} (h : op4 p is ≠ 0) : knL4 p is = [] := by unfold knL4; rw [show (op4 p is == 0) = false by simpa using h]; rfl
/-- how many truths there are -/
theorem many_eq {p : P4} (hc : ck4 p = true → p.rods.length ≤ 4) : mn4 (ol4 p true) (ol4 p true).length = (knL4 p true).length := by
  by_cases h : op4 p true = 0
  · obtain ⟨-, h1, h2, -⟩ := op4_ol h
    rw [h2, mn4_trl (hc h1), knL4_yes h]
  · rw [knL4_no h]
    have : ol4 p true = [] := by
      unfold op4 at h
      unfold ol4
      cases e : ck4 p
      · rfl
      · rw [e] at h
        simp only [cond_true] at h
        cases e2 : tr4 p with
        | nil => rfl
        | cons x l => rw [e2] at h; exact absurd rfl h
    rw [this]
    rfl
theorem mem_srt4 {xs : List Int} {n : Nat} {lo hi x : Int} (h : xs.length = n) : x ∈ srt4 xs n lo hi ↔ (lo ≤ x ∧ x ≤ hi) ∧ x ∈ xs := by
  subst h
  unfold srt4
  rw [List.mem_filter, ups_mem, ic4_mem]
theorem srt4_pair {xs : List Int} {n : Nat} {lo hi : Int} : (srt4 xs n lo hi).Pairwise (· < ·) := ups_pair.filter _
/-- the lengths of a time in the first k truths -/
def lsK4 (ts : List (Int × Int × W4)) (wh : Int) (k : Nat) : List Int := (List.range k).map fun j => if wh = 1 then (tuAt ts j).1 else (tuAt ts j).2.1
theorem lsK4_len (ts : List (Int × Int × W4)) (wh : Int) (k : Nat) : (lsK4 ts wh k).length = k := by simp [lsK4]
theorem lsK4_succ (ts : List (Int × Int × W4)) (wh : Int) (k : Nat) : lsK4 ts wh (k + 1) = lsK4 ts wh k ++ [if wh = 1 then (tuAt ts k).1 else (tuAt ts k).2.1] := by
  unfold lsK4; rw [List.range_succ, List.map_append]; rfl
theorem mem_rangeT {ts : List (Int × Int × W4)} {f : Int × Int × W4 → Int} {x : Int} : x ∈ (List.range ts.length).map (fun j => f (tuAt ts j)) ↔ ∃ t ∈ ts, x = f t := by
  rw [List.mem_map]
  constructor
  · rintro ⟨j, hj, rfl⟩; exact ⟨_, tuAt_mem (List.mem_range.1 hj), rfl⟩
  · rintro ⟨t, ht, rfl⟩
    obtain ⟨k, hk, rfl⟩ := mem_tuAt ht
    exact ⟨k, List.mem_range.2 hk, rfl⟩
theorem lens_eq {p : P4} {wh : Int} (hw : when4 wh = true) : srt4 (lsK4 (trl4 p) wh (trl4 p).length) (trl4 p).length p.glo p.ghi = lg4 p (tr4 p) wh := by
  refine pair_ext4 srt4_pair lg4_pair fun x => ?_
  rw [mem_srt4 (lsK4_len _ _ _), mem_lg4]
  unfold lsK4
  rw [mem_rangeT (f := fun t => if wh = 1 then t.1 else t.2.1)]
  have hwh : wh = 1 ∨ wh = 2 := by simpa [when4] using hw
  constructor
  · rintro ⟨-, t, ht, rfl⟩
    refine ⟨_, _, _, mem_trl4.1 ht, ?_⟩
    rcases hwh with rfl | rfl <;> rfl
  · rintro ⟨u, b, a, ht, rfl⟩
    have h1 := ups_mem.1 ht.2.1
    have h2 := ups_mem.1 ht.2.2.1
    refine ⟨?_, (b, a, u), mem_trl4.2 ht, ?_⟩
    · rcases hwh with rfl | rfl
      · exact h1
      · exact h2
    · rcases hwh with rfl | rfl <;> rfl
theorem rods_eq {nr nd : Nat} {p : P4} (ok : Ok4 nr nd p) {q : Nat} (hq : q < nr) : srt4 (rdK4 (trl4 p) q (trl4 p).length) (trl4 p).length ((roAt p.rods q).lg - (roAt p.rods q).we) (roAt p.rods q).lg = rl4 (tr4 p) q := by
  refine pair_ext4 srt4_pair rl4_pair fun x => ?_
  rw [mem_srt4 (rdK4_len _ _ _), mem_rl4]
  unfold rdK4
  rw [mem_rangeT (f := fun t => t.2.2.at_ q)]
  have hr := ok.ro q hq
  constructor
  · rintro ⟨h1, t, ht, rfl⟩
    exact ⟨by omega, _, _, _, mem_trl4.1 ht, rfl⟩
  · rintro ⟨-, u, b, a, ht, rfl⟩
    exact ⟨((mem_ws4 (by rw [ok.lr]; exact ok.nr4)).1 ht.1).1 q (by rw [ok.lr]; exact hq), (b, a, u), mem_trl4.2 ht, rfl⟩
theorem uT4_uL4 {nr nd : Nat} {p : P4} (ok : Ok4 nr nd p) {u : W4} (hu : u ∈ ws4 p) : uT4 (uL4 nr u) = u := by
  have h4 := ok.nr4
  refine w4_ext fun i hi => ?_
  rw [uT4_at hi]
  rcases Nat.lt_or_ge i nr with h | h
  · exact uL4_at h
  · rw [((mem_ws4 (by rw [ok.lr]; exact ok.nr4)).1 hu).2 i hi (by rw [ok.lr]; exact h)]
    unfold iAt
    rw [List.getD_eq_getElem?_getD, List.getElem?_eq_none (by rw [uL4_len]; exact h)]
    rfl
/-- how many readings are wrong in a truth -/
def wt4 (p : P4) (t : Int × Int × W4) : Nat := wr4 p 1 t.2.2 t.1 + wr4 p 2 t.2.2 t.2.1
theorem wt4_eq {nr nd : Nat} {p : P4} (ok : Ok4 nr nd p) {t : Int × Int × W4} (ht : t ∈ alt4 p) : cw4 (rgT4 p (uL4 nr t.2.2) t.1 t.2.1) nd = wt4 p t := by
  rw [cw4_wr ok, uT4_uL4 ok (mem_alt4.1 ht).2.2]
  rfl
theorem wt4_le {nr nd : Nat} {p : P4} (ok : Ok4 nr nd p) {t : Int × Int × W4} (ht : t ∈ alt4 p) : wt4 p t ≤ nd := by
  rw [← wt4_eq ok ht]; exact cw4_le
def fwR4 (p : P4) (ts : List (Int × Int × W4)) : Nat → Nat
  | 0 => p.res.length
  | k + 1 => min (fwR4 p ts k) (wt4 p (tuAt ts k))
theorem fwR4_spec {p : P4} {ts : List (Int × Int × W4)} : ∀ k, fwR4 p ts k ≤ p.res.length ∧ (∀ j, j < k → fwR4 p ts k ≤ wt4 p (tuAt ts j)) ∧ (fwR4 p ts k = p.res.length ∨ ∃ j, j < k ∧ fwR4 p ts k = wt4 p (tuAt ts j))
  | 0 => ⟨Nat.le_refl _, fun j h => absurd h (by omega), .inl rfl⟩
  | k + 1 => by
    obtain ⟨h1, h2, h3⟩ := fwR4_spec (p := p) (ts := ts) k
    have e : fwR4 p ts (k + 1) = min (fwR4 p ts k) (wt4 p (tuAt ts k)) := rfl
    refine ⟨by omega, fun j hj => ?_, ?_⟩
    · by_cases hjk : j = k
      · subst hjk; omega
      · have := h2 j (by omega); omega
    · rcases Nat.le_total (fwR4 p ts k) (wt4 p (tuAt ts k)) with h | h
      · rcases h3 with h3 | ⟨j, hj, h3⟩
        · exact .inl (by omega)
        · exact .inr ⟨j, by omega, by omega⟩
      · exact .inr ⟨k, by omega, by omega⟩
theorem few_eq {p : P4} (hc : ck4 p = true) : few4 p = (fwR4 p (alt4 p) (alt4 p).length : Nat) := by
  obtain ⟨h1, h2, h3⟩ := fwR4_spec (p := p) (ts := alt4 p) (alt4 p).length
  have hit : few4 p = (p.res.length : Nat) ∨ ∃ u b a, u ∈ ws4 p ∧ b ∈ ln4 p ∧ a ∈ ln4 p ∧ few4 p = ((wr4 p 1 u b + wr4 p 2 u a : Nat) : Int) := by
    unfold few4
    rw [hc]
    simp only [cond_true]
    rcases fwk4_hit (n := p.res.length) (l := bs4 p) (k := (bs4 p).length) (Nat.le_refl _) with e | ⟨x, hx, e⟩
    · exact .inl (by rw [e])
    · obtain ⟨h1, h2, h3⟩ := mem_bs4.1 hx
      obtain ⟨⟨l1, m1, e1⟩, -⟩ := mem_gr4.1 h2
      obtain ⟨⟨l2, m2, e2⟩, -⟩ := mem_gr4.1 h3
      exact .inr ⟨x.u, l1, l2, h1, m1, m2, by rw [e, e1, e2]⟩
  have top : few4 p ≤ (p.res.length : Nat) := by
    unfold few4
    rw [hc]
    have := fwk4_le (n := p.res.length) (l := bs4 p) (k := (bs4 p).length) (Nat.le_refl _)
    simp only [cond_true]
    omega
  refine Int.le_antisymm ?_ ?_
  · rcases h3 with h3 | ⟨j, hj, h3⟩
    · rw [h3]; exact top
    · rw [h3]
      obtain ⟨m1, m2, m3⟩ := mem_alt4.1 (tuAt_mem hj)
      exact (few4_le (nr := 0) (nd := 0) hc m3 m1 m2).2
  · rcases hit with e | ⟨u, b, a, hu, hb, ha, e⟩
    · rw [e]; omega
    · rw [e]
      obtain ⟨j, hj, e2⟩ := mem_tuAt (mem_alt4.2 (show ((b, a, u) : Int × Int × W4).1 ∈ ln4 p ∧ _ from ⟨hb, ha, hu⟩))
      have := h2 j hj
      rw [e2] at this
      unfold wt4 at this
      simp only at this
      omega
/-- reading i is right in a truth -/
def rgR4 (p : P4) (nr : Nat) (t : Int × Int × W4) (i : Nat) : Bool := rgT4 p (uL4 nr t.2.2) t.1 t.2.1 i
def sgK4 (p : P4) (nr : Nat) (ts : List (Int × Int × W4)) (i : Nat) : Nat → Bool
  | 0 => false
  | k + 1 => sgK4 p nr ts i k || rgR4 p nr (tuAt ts k) i
theorem sgK4_iff {p : P4} {nr : Nat} {ts : List (Int × Int × W4)} {i : Nat} : ∀ {k}, sgK4 p nr ts i k = true ↔ ∃ j, j < k ∧ rgR4 p nr (tuAt ts j) i = true
  | 0 => ⟨fun h => (by cases h), fun ⟨j, h, _⟩ => absurd h (by omega)⟩
  | k + 1 => by
    rw [show sgK4 p nr ts i (k + 1) = (sgK4 p nr ts i k || rgR4 p nr (tuAt ts k) i) from rfl, Bool.or_eq_true, sgK4_iff]
    constructor
    · rintro (⟨j, h, e⟩ | e)
      · exact ⟨j, by omega, e⟩
      · exact ⟨k, by omega, e⟩
    · rintro ⟨j, h, e⟩
      by_cases hjk : j = k
      · subst hjk; exact .inr e
      · exact .inl ⟨j, by omega, e⟩
theorem sgA_eq {nr nd : Nat} {p : P4} (ok : Ok4 nr nd p) {i : Nat} (hi : i < nd) : sgK4 p nr (trl4 p) i (trl4 p).length = sgA4 p (tr4 p) i := by
  rw [Bool.eq_iff_iff, sgK4_iff]
  constructor
  · rintro ⟨j, hj, e⟩
    have ht := mem_trl4.1 (tuAt_mem hj)
    unfold rgR4 at e
    rw [rgT4_eq ok hi, uT4_uL4 ok ht.1] at e
    cases h : sgA4 p (tr4 p) i
    · rw [sgA4_no h ht] at e; cases e
    · rfl
  · intro h
    obtain ⟨u, b, a, ht, e⟩ := sgA4_yes h
    obtain ⟨j, hj, e2⟩ := mem_tuAt (mem_trl4.2 (show Tr4 p ((b, a, u) : Int × Int × W4).2.2 b a from ht))
    refine ⟨j, hj, ?_⟩
    unfold rgR4
    rw [e2, rgT4_eq ok hi, uT4_uL4 ok ht.1]
    exact e
theorem sgL4_congr {f g : Nat → Bool} : ∀ {k : Nat}, (∀ i, i < k → f i = g i) → sgL4 f k = sgL4 g k
  | 0, _ => rfl
  | k + 1, h => by
    have ih := sgL4_congr (k := k) fun i hi => h i (by omega)
    have hk := h k (by omega)
    cases e : f k
    · rw [sgL4_no e, sgL4_no (by rw [← hk]; exact e), ih]
    · rw [sgL4_yes e, sgL4_yes (by rw [← hk]; exact e), ih]
/-- the specification's Strange -/
def sgR4 (p : P4) (nr nd : Nat) : List Int := sgL4 (fun i => sgK4 p nr (trl4 p) i (trl4 p).length) nd
theorem strange_eq {nr nd : Nat} {p : P4} (ok : Ok4 nr nd p) : sgR4 p nr nd = sgL4 (sgA4 p (tr4 p)) nd := sgL4_congr fun _ hi => sgA_eq ok hi
/-- the least and the greatest stretch -/
theorem stK4_spec {ts : List (Int × Int × W4)} : ∀ {k : Nat}, 0 < k → (∀ j, j < k → (stK4 ts k).lo ≤ stN4 ts j ∧ stN4 ts j ≤ (stK4 ts k).hi) ∧ (∃ j, j < k ∧ (stK4 ts k).lo = stN4 ts j) ∧ ∃ j, j < k ∧ (stK4 ts k).hi = stN4 ts j
  | 0, h => absurd h (by omega)
  | k + 1, _ => by
    have e1 : (stK4 ts (k + 1)).lo = min (if k = 0 then stN4 ts k else (stK4 ts k).lo) (stN4 ts k) := rfl
    have e2 : (stK4 ts (k + 1)).hi = max (if k = 0 then stN4 ts k else (stK4 ts k).hi) (stN4 ts k) := rfl
    by_cases h0 : k = 0
    · subst h0
      rw [if_pos rfl] at e1 e2
      refine ⟨fun j hj => ?_, ⟨0, by omega, by omega⟩, ⟨0, by omega, by omega⟩⟩
      obtain rfl : j = 0 := by omega
      omega
    · rw [if_neg h0] at e1 e2
      obtain ⟨h1, ⟨j1, i1, h2⟩, ⟨j2, i2, h3⟩⟩ := stK4_spec (ts := ts) (k := k) (by omega)
      refine ⟨fun j hj => ?_, ?_, ?_⟩
      · by_cases hjk : j = k
        · subst hjk; omega
        · have := h1 j (by omega); omega
      · rcases Int.le_total (stK4 ts k).lo (stN4 ts k) with h | h
        · exact ⟨j1, by omega, by omega⟩
        · exact ⟨k, by omega, by omega⟩
      · rcases Int.le_total (stK4 ts k).hi (stN4 ts k) with h | h
        · exact ⟨k, by omega, by omega⟩
        · exact ⟨j2, by omega, by omega⟩
theorem sp_ext {a b : Sp} (h1 : a.lo = b.lo) (h2 : a.hi = b.hi) : a = b := by cases a; cases b; simp only at h1 h2; rw [h1, h2]
theorem ends_eq {p : P4} (f : W4 → Bool) : stK4 ((trl4 p).filter fun t => f t.2.2) ((trl4 p).filter fun t => f t.2.2).length = en4 ((tr4 p).filter fun x => f x.u) ((tr4 p).filter fun x => f x.u).length := by
  have hm : ∀ x ∈ (tr4 p).filter (fun x => f x.u), ∀ b a, b ∈ x.b.2 → a ∈ x.a.2 → ∃ j, j < ((trl4 p).filter fun t => f t.2.2).length ∧ stN4 ((trl4 p).filter fun t => f t.2.2) j = a - b := fun x hx b a hb ha => by
    obtain ⟨h1, h2⟩ := List.mem_filter.1 hx
    have ht := tr4_iff.2 ⟨x, h1, rfl, hb, ha⟩
    obtain ⟨j, hj, e⟩ := mem_tuAt (List.mem_filter.2 ⟨mem_trl4.2 (show Tr4 p ((b, a, x.u) : Int × Int × W4).2.2 b a from ht), h2⟩ : ((b, a, x.u) : Int × Int × W4) ∈ (trl4 p).filter fun t => f t.2.2)
    exact ⟨j, hj, by unfold stN4; rw [e]⟩
  have hm2 : ∀ j, j < ((trl4 p).filter fun t => f t.2.2).length → ∃ x ∈ (tr4 p).filter (fun x => f x.u), ∃ b a, b ∈ x.b.2 ∧ a ∈ x.a.2 ∧ stN4 ((trl4 p).filter fun t => f t.2.2) j = a - b := fun j hj => by
    obtain ⟨h1, h2⟩ := List.mem_filter.1 (tuAt_mem hj)
    obtain ⟨x, hx, hu, hb, ha⟩ := tr4_iff.1 (mem_trl4.1 h1)
    exact ⟨x, List.mem_filter.2 ⟨hx, by rw [hu]; exact h2⟩, _, _, hb, ha, rfl⟩
  obtain ⟨l, hl⟩ : ∃ l, (tr4 p).filter (fun x => f x.u) = l := ⟨_, rfl⟩
  obtain ⟨ts, hts⟩ : ∃ ts, (trl4 p).filter (fun t => f t.2.2) = ts := ⟨_, rfl⟩
  rw [hl] at hm hm2 ⊢
  rw [hts] at hm hm2 ⊢
  have hsub : ∀ x ∈ l, x ∈ tr4 p := fun x hx => by rw [← hl] at hx; exact (List.mem_filter.1 hx).1
  by_cases h0 : l = []
  · subst h0
    have : ts = [] := by
      cases ts with
      | nil => rfl
      | cons t r =>
        obtain ⟨x, hx, -⟩ := hm2 0 (by simp)
        cases hx
    subst this
    rfl
  · obtain ⟨x0, hx0⟩ := List.exists_mem_of_ne_nil _ h0
    obtain ⟨e1, ⟨x1, m1, e2⟩, ⟨x2, m2, e3⟩⟩ := en4_all h0
    have fm : ∀ x ∈ l, fr4 x.b.2 ∈ x.b.2 ∧ la4 x.b.2 ∈ x.b.2 ∧ fr4 x.a.2 ∈ x.a.2 ∧ la4 x.a.2 ∈ x.a.2 := fun x hx => by
      obtain ⟨⟨-, g1, g2⟩, -⟩ := mem_tr4.1 (hsub x hx)
      exact ⟨fr4_mem (gr4_ne g1), la4_mem (gr4_ne g1), fr4_mem (gr4_ne g2), la4_mem (gr4_ne g2)⟩
    obtain ⟨j0, k0, -⟩ := hm x0 hx0 _ _ (fm x0 hx0).1 (fm x0 hx0).2.2.1
    obtain ⟨s1, ⟨i1, n1, s2⟩, ⟨i2, n2, s3⟩⟩ := stK4_spec (ts := ts) (k := ts.length) (by omega)
    have q1 : (sp4 x1).lo = fr4 x1.a.2 - la4 x1.b.2 := rfl
    have q2 : (sp4 x2).hi = la4 x2.a.2 - fr4 x2.b.2 := rfl
    have low : ∀ j, j < ts.length → (en4 l l.length).lo ≤ stN4 ts j ∧ stN4 ts j ≤ (en4 l l.length).hi := fun j hj => by
      obtain ⟨x, hx, b, a, hb, ha, e⟩ := hm2 j hj
      obtain ⟨-, -, t1, t2⟩ := tr4_ends (hsub x hx)
      have t1 := t1 b hb
      have t2 := t2 a ha
      have t3 := e1 x hx
      unfold sp4 at t3
      simp only at t3
      omega
    obtain ⟨j1, y1, z1⟩ := hm x1 m1 _ _ (fm x1 m1).2.1 (fm x1 m1).2.2.1
    obtain ⟨j2, y2, z2⟩ := hm x2 m2 _ _ (fm x2 m2).1 (fm x2 m2).2.2.2
    have a1 := s1 j1 y1
    have a2 := s1 j2 y2
    have b1 := low i1 n1
    have b2 := low i2 n2
    refine sp_ext ?_ ?_
    · rw [e2, q1]
      rw [e2, q1] at b1
      omega
    · rw [e3, q2]
      rw [e3, q2] at b2
      omega
theorem filt_true {α : Type} (l : List α) : (l.filter fun _ => true) = l := by simp
/-- Stretch of all truths -/
theorem stretch_eq {p : P4} : stK4 (trl4 p) (trl4 p).length = en4 (tr4 p) (tr4 p).length := by
  have := ends_eq (p := p) fun _ => true
  rwa [filt_true, filt_true] at this
theorem stretch_kn {p : P4} : stK4 (knL4 p true) (knL4 p true).length = st4 p := by
  unfold st4
  by_cases h : op4 p true = 0
  · rw [knL4_yes h, (op4_ol h).2.2.1, stretch_eq]
  · rw [knL4_no h]
    have : ol4 p true = [] := by
      unfold op4 at h
      unfold ol4
      cases e : ck4 p
      · rfl
      · rw [e] at h
        simp only [cond_true] at h
        cases e2 : tr4 p with
        | nil => rfl
        | cons x l => rw [e2] at h; exact absurd rfl h
    rw [this]
    rfl
theorem hcK4_all {ts : List (Int × Int × W4)} {pt : Int} : ∀ {k}, hcK4 ts pt k = k ↔ ∀ j, j < k → is4 pt (tuAt ts j).1 (tuAt ts j).2.1 = true
  | 0 => ⟨fun _ j h => absurd h (by omega), fun _ => rfl⟩
  | k + 1 => by
    have hl := hcK4_le ts pt k
    cases e : is4 pt (tuAt ts k).1 (tuAt ts k).2.1
    · rw [hcK4_no e]
      constructor
      · intro h; omega
      · intro h; rw [h k (by omega)] at e; cases e
    · rw [hcK4_yes e, Nat.add_right_cancel_iff, hcK4_all]
      constructor
      · intro h j hj
        by_cases hjk : j = k
        · subst hjk; exact e
        · exact h j (by omega)
      · exact fun h j hj => h j (by omega)
theorem hcK4_none {ts : List (Int × Int × W4)} {pt : Int} : ∀ {k}, hcK4 ts pt k = 0 ↔ ∀ j, j < k → is4 pt (tuAt ts j).1 (tuAt ts j).2.1 = false
  | 0 => ⟨fun _ j h => absurd h (by omega), fun _ => rfl⟩
  | k + 1 => by
    cases e : is4 pt (tuAt ts k).1 (tuAt ts k).2.1
    · rw [hcK4_no e, hcK4_none]
      constructor
      · intro h j hj
        by_cases hjk : j = k
        · subst hjk; exact e
        · exact h j (by omega)
      · exact fun h j hj => h j (by omega)
    · rw [hcK4_yes e]
      constructor
      · intro h; omega
      · intro h; rw [h k (by omega)] at e; cases e
/-- Holds of all truths -/
theorem holds_eq {p : P4} (hne : tr4 p ≠ []) {pt : Int} (hp : 0 ≤ pt) : hdR4 (hcK4 (trl4 p) pt (trl4 p).length) (trl4 p).length = hd4 (tr4 p) pt := by
  have hn0 : trl4 p ≠ [] := fun h => hne (trl4_nil.1 h)
  have hpos := List.length_pos_iff.2 hn0
  have all : ∀ v : Bool, (∀ j, j < (trl4 p).length → is4 pt (tuAt (trl4 p) j).1 (tuAt (trl4 p) j).2.1 = v) ↔ ∀ u b a, Tr4 p u b a → is4 pt b a = v := fun v => by
    constructor
    · intro h u b a ht
      obtain ⟨j, hj, e⟩ := mem_tuAt (mem_trl4.2 (show Tr4 p ((b, a, u) : Int × Int × W4).2.2 b a from ht))
      have := h j hj
      rw [e] at this
      exact this
    · exact fun h j hj => h _ _ _ (mem_trl4.1 (tuAt_mem hj))
  have y : hcK4 (trl4 p) pt (trl4 p).length = (trl4 p).length ↔ hd4 (tr4 p) pt = 1 := by rw [hcK4_all, all true, hd4_yes hp]
  have n : hcK4 (trl4 p) pt (trl4 p).length = 0 ↔ hd4 (tr4 p) pt = 2 := by rw [hcK4_none, all false, hd4_not hp hne]
  unfold hdR4
  by_cases h1 : hcK4 (trl4 p) pt (trl4 p).length = (trl4 p).length
  · rw [show (hcK4 (trl4 p) pt (trl4 p).length == (trl4 p).length) = true by simpa using h1, cond_true, y.1 h1]
  · rw [show (hcK4 (trl4 p) pt (trl4 p).length == (trl4 p).length) = false by simpa using h1, cond_false]
    by_cases h2 : hcK4 (trl4 p) pt (trl4 p).length = 0
    · rw [show (hcK4 (trl4 p) pt (trl4 p).length == 0) = true by simpa using h2, cond_true, n.1 h2]
    · rw [show (hcK4 (trl4 p) pt (trl4 p).length == 0) = false by simpa using h2, cond_false]
      rcases hd4_range (l := tr4 p) (pt := pt) with h | h | h
      · exact absurd (y.2 h) h1
      · exact absurd (n.2 h) h2
      · exact h.symm
/-- the greatest doubt that is left if the length of rod q is known: the specification's, the program's -/
def wsR4 (ts : List (Int × Int × W4)) (q : Nat) (L : List Int) : Nat → Int
  | 0 => 0
  | i + 1 => max (wsR4 ts q L i) ((stK4 (ts.filter fun t => t.2.2.at_ q == iAt L i) (ts.filter fun t => t.2.2.at_ q == iAt L i).length).hi - (stK4 (ts.filter fun t => t.2.2.at_ q == iAt L i) (ts.filter fun t => t.2.2.at_ q == iAt L i).length).lo)
def wsP4 (l : List Bu4) (q : Nat) (L : List Int) : Nat → Int
  | 0 => 0
  | i + 1 => max (wsP4 l q L i) ((en4 (l.filter fun x => x.u.at_ q == iAt L i) (l.filter fun x => x.u.at_ q == iAt L i).length).hi - (en4 (l.filter fun x => x.u.at_ q == iAt L i) (l.filter fun x => x.u.at_ q == iAt L i).length).lo)
theorem worst_eq {p : P4} {q : Nat} {L : List Int} : ∀ k, wsR4 (trl4 p) q L k = wsP4 (tr4 p) q L k
  | 0 => rfl
  | k + 1 => by
    have := ends_eq (p := p) fun u => u.at_ q == iAt L k
    unfold wsR4 wsP4
    rw [worst_eq k, this]
/-- the rod that should be compared, and what is left then, behind k rods -/
def nxK4 (L : Nat → List Int) (M : Nat → Int) : Nat → Int × Int
  | 0 => (-1, 0)
  | k + 1 => if (L k).length < 2 then nxK4 L M k else if (nxK4 L M k).1 < 0 ∨ M k < (nxK4 L M k).2 then ((k : Int), M k) else nxK4 L M k
/-- what nxK4 does in a step -/
theorem nxK4_skip {L : Nat → List Int} {M : Nat → Int} {k : Nat} (h : (L k).length < 2) : nxK4 L M (k + 1) = nxK4 L M k := by unfold nxK4; rw [if_pos h]; cases k <;> rfl
theorem nxK4_take {L : Nat → List Int} {M : Nat → Int} {k : Nat} (h : ¬(L k).length < 2) (h2 : (nxK4 L M k).1 < 0 ∨ M k < (nxK4 L M k).2) : nxK4 L M (k + 1) = ((k : Int), M k) := by
  rw [nxK4.eq_2, if_neg h, if_pos h2]
theorem nxK4_keep {L : Nat → List Int} {M : Nat → Int} {k : Nat} (h : ¬(L k).length < 2) (h2 : ¬((nxK4 L M k).1 < 0 ∨ M k < (nxK4 L M k).2)) : nxK4 L M (k + 1) = nxK4 L M k := by
  rw [nxK4.eq_2, if_neg h, if_neg h2]
def nxb4 (p : P4) : Int := (nxK4 (fun q => rl4 (tr4 p) q) (fun q => wsP4 (tr4 p) q (rl4 (tr4 p) q) (rl4 (tr4 p) q).length) p.rods.length).1
/-- what Next answers -/
def nxv4 (p : P4) : Int := bif op4 p true == 0 then (if nxb4 p < 0 then 0 else nxb4 p) else 0
def nxe4 (p : P4) : Int := bif op4 p true == 0 then (if nxb4 p < 0 then 3 else 0) else op4 p true
/-- all lengths are small -/
theorem alt4_in {nr nd : Nat} {p : P4} (ok : Ok4 nr nd p) {t : Int × Int × W4} (h : t ∈ alt4 p) : (0 ≤ t.1 ∧ t.1 ≤ 99999) ∧ (0 ≤ t.2.1 ∧ t.2.1 ≤ 99999) ∧ ∀ q, q < nr → 0 ≤ t.2.2.at_ q ∧ t.2.2.at_ q ≤ 9999 := by
  obtain ⟨h1, h2, h3⟩ := mem_alt4.1 h
  have h1 := ups_mem.1 h1
  have h2 := ups_mem.1 h2
  have hg := ok.g
  refine ⟨by omega, by omega, fun q hq => ?_⟩
  have h4 := ((mem_ws4 (by rw [ok.lr]; exact ok.nr4)).1 h3).1 q (by rw [ok.lr]; exact hq)
  have h5 := ok.ro q hq
  omega
theorem trl4_alt {p : P4} {t : Int × Int × W4} (h : t ∈ trl4 p) : t ∈ alt4 p := (List.mem_filter.1 h).1
/-- what is left of the stretch where rod q has the length n -/
def lfT4 (ts : List (Int × Int × W4)) (q : Nat) (n : Int) : List (Int × Int × W4) := ts.filter fun t => t.2.2.at_ q == n
theorem wsR4_succ {ts : List (Int × Int × W4)} {q : Nat} {L : List Int} {i : Nat} : wsR4 ts q L (i + 1) = max (wsR4 ts q L i) ((stK4 (lfT4 ts q (iAt L i)) (lfT4 ts q (iAt L i)).length).hi - (stK4 (lfT4 ts q (iAt L i)) (lfT4 ts q (iAt L i)).length).lo) := rfl
theorem stK4_in {ts : List (Int × Int × W4)} (hok : ∀ t ∈ ts, (0 ≤ t.1 ∧ t.1 ≤ 99999) ∧ (0 ≤ t.2.1 ∧ t.2.1 ≤ 99999)) : (-99999 ≤ (stK4 ts ts.length).lo ∧ (stK4 ts ts.length).lo ≤ 99999) ∧ (-99999 ≤ (stK4 ts ts.length).hi ∧ (stK4 ts ts.length).hi ≤ 99999) := by
  cases ts with
  | nil => exact ⟨by decide, by decide⟩
  | cons t l =>
    obtain ⟨-, ⟨i, hi, e1⟩, ⟨j, hj, e2⟩⟩ := stK4_spec (ts := t :: l) (k := (t :: l).length) (by simp)
    have h1 := hok _ (tuAt_mem hi)
    have h2 := hok _ (tuAt_mem hj)
    unfold stN4 at e1 e2
    omega
theorem wsR4_in {ts : List (Int × Int × W4)} {q : Nat} {L : List Int} (hok : ∀ t ∈ ts, (0 ≤ t.1 ∧ t.1 ≤ 99999) ∧ (0 ≤ t.2.1 ∧ t.2.1 ≤ 99999)) : ∀ k, 0 ≤ wsR4 ts q L k ∧ wsR4 ts q L k ≤ 200000
  | 0 => ⟨Int.le_refl _, by show (0 : Int) ≤ 200000; omega⟩
  | k + 1 => by
    have h := wsR4_in (q := q) (L := L) hok k
    have h1 := stK4_in (ts := lfT4 ts q (iAt L k)) (fun t ht => hok t (List.mem_filter.1 ht).1)
    rw [wsR4_succ]
    omega
/-- the bundles in which rod q has the length n -/
def lfB4 (l : List Bu4) (q : Nat) (n : Int) : List Bu4 := l.filter fun x => x.u.at_ q == n
theorem wsP4_succ {l : List Bu4} {q : Nat} {L : List Int} {i : Nat} : wsP4 l q L (i + 1) = max (wsP4 l q L i) ((en4 (lfB4 l q (iAt L i)) (lfB4 l q (iAt L i)).length).hi - (en4 (lfB4 l q (iAt L i)) (lfB4 l q (iAt L i)).length).lo) := rfl
theorem trl4_ok {nr nd : Nat} {p : P4} (ok : Ok4 nr nd p) : ∀ t ∈ trl4 p, (0 ≤ t.1 ∧ t.1 ≤ 99999) ∧ (0 ≤ t.2.1 ∧ t.2.1 ≤ 99999) := fun t ht => by
  have := alt4_in ok (trl4_alt ht)
  exact ⟨this.1, this.2.1⟩
theorem enB4_in {nr nd : Nat} {p : P4} (ok : Ok4 nr nd p) (q : Nat) (n : Int) : (-99999 ≤ (en4 (lfB4 (tr4 p) q n) (lfB4 (tr4 p) q n).length).lo ∧ (en4 (lfB4 (tr4 p) q n) (lfB4 (tr4 p) q n).length).lo ≤ 99999) ∧ (-99999 ≤ (en4 (lfB4 (tr4 p) q n) (lfB4 (tr4 p) q n).length).hi ∧ (en4 (lfB4 (tr4 p) q n) (lfB4 (tr4 p) q n).length).hi ≤ 99999) := by
  have h1 := stK4_in (ts := lfT4 (trl4 p) q n) (fun t ht => trl4_ok ok t (List.mem_filter.1 ht).1)
  have h2 := ends_eq (p := p) fun u => u.at_ q == n
  unfold lfT4 at h1
  rw [h2] at h1
  exact h1
theorem wsP4_in {nr nd : Nat} {p : P4} (ok : Ok4 nr nd p) (q : Nat) (L : List Int) (k : Nat) : 0 ≤ wsP4 (tr4 p) q L k ∧ wsP4 (tr4 p) q L k ≤ 200000 := by
  rw [← worst_eq]
  exact wsR4_in (trl4_ok ok) k

end Go.Proofs.Ytmmgkmdfecnkdaa
