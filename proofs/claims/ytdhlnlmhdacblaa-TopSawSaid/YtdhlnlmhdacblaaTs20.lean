/- What BarsTrue asks, in plain terms (layer 1); What Sawn says of a store's truths, in plain terms; The greatest number of bars with pieces, as Sawn looks for it, in plain terms. -/
import Derived.Test.YtdhlnlmhdacblaaTs18
import Derived.Test.YtdhlnlmhdacblaaTs19
import Derived.Test.YtdhlnlmhdacblaaTs14
namespace Go.Proofs.Ytdhlnlmhdacblaa
open Go.RowKit
open Go.Sort (grow)
set_option linter.unusedVariables false
set_option linter.unusedSimpArgs false

section
variable {bs : List Br} {ps : List Pc} {kf wr lg : Int} {l : List Nat} {a b c p : Nat}
theorem true_law (h : ckS bs ps kf wr = true) (hl : l ∈ trL bs ps kf wr) :
    fitP bs ps kf wr (toI l) = (true, 0) ∧ askE bs ps kf wr true = 0 ∧ (fewP bs ps kf wr).2 = 0 ∧ (0 ≤ (fewP bs ps kf wr).1 ∧ (fewP bs ps kf wr).1 ≤ (wgB bs ps l : Nat)) ∧ 0 ≤ leastP bs ps kf wr ∧ leastP bs ps kf wr ≤ (usL bs.length l : Nat) := by
  obtain ⟨-, -, h4, h5, h6, h7⟩ := ckS_vals h
  have hne : trL bs ps kf wr ≠ [] := fun e => by rw [e] at hl; cases hl
  obtain ⟨⟨k1, k2⟩, k3⟩ := trL_mem.1 hl
  refine ⟨?_, by rw [askE_ok h, if_neg hne], ?_⟩
  · unfold fitP
    have e1 : isSw bs.length ps.length (toI l) = true := isSw_toI k1 k2
    unfold isSw at e1
    rw [Bool.and_comm] at e1
    have e2 : ((swA bs ps kf wr).any fun x => eqI x.of (toI l)) = true := by
      rw [swA_ok h h5.1]
      refine List.any_eq_true.2 ⟨_, List.mem_map.2 ⟨l, hl, rfl⟩, ?_⟩
      show eqI (toI l) (toI l) = true
      unfold eqI
      simp [allN_iff]
    rw [h, e1, e2]; rfl
  · have h8 : l ∈ trL bs ps kf 8 := trL_mem.2 ⟨⟨k1, k2⟩, ok_more k3 h5.2⟩
    rcases few_ok h with ⟨-, e⟩ | ⟨r, e, -, hr⟩
    · rw [e] at h8; cases h8
    · rw [e]
      have := hr l h8
      refine ⟨rfl, ⟨by show (0 : Int) ≤ (r : Int); omega, by show (r : Int) ≤ _; omega⟩, ?_⟩
      rcases least_ok h with ⟨e, -⟩ | ⟨m, -, e, hm⟩
      · exact absurd e hne
      · have := hm l hl
        rw [e]; omega
theorem true_str (h : ckS bs ps kf wr = true) (hl : l ∈ trL bs ps kf wr) :
    (strP bs ps kf wr).length ≤ ps.length ∧ ∀ j, j < (strP bs ps kf wr).length → ∃ k : Nat, k < ps.length ∧ iAt (strP bs ps kf wr) j = (k : Int) ∧ wrB bs ps k (gN l k) = true := by
  have hne : trL bs ps kf wr ≠ [] := fun e => by rw [e] at hl; cases hl
  have e0 : strP bs ps kf wr = stL bs ps (swA bs ps kf wr) ps.length := by
    unfold strP; rw [askE_ok h, if_neg hne]; rfl
  rw [e0]
  refine ⟨?_, fun j hj => ?_⟩
  · unfold stL
    rw [List.length_map]
    exact Nat.le_trans (List.length_filter_le _ _) (by simp)
  · have hm := iAt_mem hj
    unfold stL at hm
    obtain ⟨k, hk, e⟩ := List.mem_map.1 hm
    obtain ⟨h1, h2⟩ := List.mem_filter.1 hk
    refine ⟨k, List.mem_range.1 h1, e.symm, ?_⟩
    have h2 : (swA bs ps kf wr).countP (rtB bs ps k) = 0 := by simpa using h2
    rw [List.countP_eq_zero] at h2
    have := h2 _ (by rw [swA_ok h (ckS_vals h).2.2.2.1.1]; exact List.mem_map.2 ⟨l, hl, rfl⟩)
    unfold rtB at this
    simp only [swOf, toI_at, Int.toNat_natCast] at this
    simpa using this
theorem true_rest (h : ckS bs ps kf wr = true) (hl : l ∈ trL bs ps kf wr) (hb : b < bs.length) :
    (restP bs ps kf wr b).2 = 0 ∧ (restP bs ps kf wr b).1.lo ≤ rsB bs ps kf l b ∧ rsB bs ps kf l b ≤ (restP bs ps kf wr b).1.hi := by
  have hne : trL bs ps kf wr ≠ [] := fun e => by rw [e] at hl; cases hl
  rw [rest_ok h hb, if_neg hne]
  have := (spF_fold ((trL bs ps kf wr).map fun l => rsB bs ps kf l b) ⟨999, 0⟩).2.2.1 _ (List.mem_map.2 ⟨l, hl, rfl⟩)
  exact ⟨rfl, this.1, this.2⟩
theorem kn_agr {α : Type} {p : α → Bool} {L : List α} {x : α} (hx : x ∈ L) : agrB (knP p L) (p x) = true := by
  have hne : L ≠ [] := fun e => by rw [e] at hx; cases hx
  rcases knP_vals (p := p) hne with ⟨e, h⟩ | ⟨e, h⟩ | ⟨e, -⟩
  · rw [e, h x hx]; rfl
  · rw [e, h x hx]; rfl
  · rw [e]; rfl
theorem room_ok (h : ckS bs ps kf wr = true) (hne : trL bs ps kf wr ≠ []) : roomP bs ps kf wr lg = if wi lg 1 999 = true then (knP (fun l => hrB bs ps kf lg l) (trL bs ps kf wr), 0) else (0, 1) := by
  unfold roomP
  cases wi lg 1 999
  · have : askE bs ps kf wr false = 1 := by unfold askE; rw [h]; rfl
    rw [this]; rfl
  · rw [askE_ok h, if_neg hne, swA_ok h (ckS_vals h).2.2.2.1.1, knP_map]; rfl
theorem true_room (h : ckS bs ps kf wr = true) (hl : l ∈ trL bs ps kf wr) :
    ((roomP bs ps kf wr lg).2 = 1) ∨ ((roomP bs ps kf wr lg).2 = 0 ∧ wi lg 1 999 = true ∧ agrB (roomP bs ps kf wr lg).1 (hrB bs ps kf lg l) = true) := by
  have hne : trL bs ps kf wr ≠ [] := fun e => by rw [e] at hl; cases hl
  rw [room_ok h hne]
  cases e : wi lg 1 999
  · exact .inl rfl
  · exact .inr ⟨rfl, rfl, kn_agr (p := fun l => hrB bs ps kf lg l) hl⟩
theorem true_of (h : ckS bs ps kf wr = true) (hl : l ∈ trL bs ps kf wr) (ha : a < ps.length) (hc : c < ps.length) :
    hasI (ofP bs ps kf wr a) (gN l a : Nat) = true ∧ hasI (heatsP bs ps kf wr a) (brAt bs (gN l a)).heat = true ∧ (alikeP bs ps kf wr a c).2 = 0 ∧ agrB (alikeP bs ps kf wr a c).1 (gN l a == gN l c) = true := by
  have hne : trL bs ps kf wr ≠ [] := fun e => by rw [e] at hl; cases hl
  obtain ⟨⟨k1, k2⟩, k3⟩ := trL_mem.1 hl
  refine ⟨?_, ?_, ?_⟩
  · rw [of_ok h hne ha, hasI_mem, uptoL_mem]
    exact ⟨gN l a, k2 _ (gN_lt (by omega)), List.any_eq_true.2 ⟨l, hl, by simp⟩, rfl⟩
  · rw [hasI_mem, heats_mem h ha]
    exact ⟨l, hl, rfl⟩
  · rw [alike_ok h ha hc, if_neg hne]
    exact ⟨rfl, kn_agr (p := fun l => gN l a == gN l c) hl⟩
theorem ofP_le : (ofP bs ps kf wr lg).length ≤ bs.length := ofP_len
theorem heatsP_le (h : ckS bs ps kf wr = true) (ha : a < ps.length) : (heatsP bs ps kf wr a).length ≤ 10 := by
  have h1 : (heatsP bs ps kf wr a).Nodup := by
    have e0 : heatsP bs ps kf wr a = srtC (htL bs (ofP bs ps kf wr a)) := rfl
    rw [e0]
    exact (srtC_asc _).imp (fun h => by omega)
  have h2 := nodup_le _ htA h1 (fun v hv => by
    obtain ⟨l, hl, e⟩ := (heats_mem h ha).1 hv
    obtain ⟨⟨k1, k2⟩, -⟩ := trL_mem.1 hl
    have := ((ckS_vals h).2.2.2.2.1 _ (k2 _ (gN_lt (l := l) (p := a) (by omega)))).1
    exact hasI_mem.1 (htA_has (by omega) (by omega)))
  exact h2
end

def allF (bs : List Br) (ps : List Pc) (kf : Int) (p : Nat) (l : List Nat) : List (List Nat) := ((allL bs.length p).filter fun m => okB bs ps kf 8 (l ++ m)).map (l ++ ·)
def allK (bs : List Br) (ps : List Pc) (kf : Int) (p : Nat) (l : List Nat) (k : Nat) : List (List Nat) := (List.range k).flatMap fun b => allF bs ps kf p (l ++ [b])
def lAt (L : List (List Nat)) (k : Nat) : List Nat := L.getD k []
theorem xAt_map {L : List (List Nat)} {k : Nat} : xAt (L.map toI) k = toI (lAt L k) := by
  unfold xAt lAt
  rw [List.getD_eq_getElem?_getD, List.getD_eq_getElem?_getD, List.getElem?_map]
  cases L[k]? <;> rfl
theorem lAt_mem {L : List (List Nat)} {k : Nat} (h : k < L.length) : lAt L k ∈ L := by
  unfold lAt
  rw [List.getD_eq_getElem?_getD, List.getElem?_eq_getElem h]; exact List.getElem_mem h
theorem lAt_take {L : List (List Nat)} {k : Nat} (h : k < L.length) : L.take (k + 1) = L.take k ++ [lAt L k] := by
  unfold lAt
  rw [List.take_add_one, List.getD_eq_getElem?_getD, List.getElem?_eq_getElem h]; rfl
theorem flat_le {α β : Type} (f : α → List β) (c : Nat) : ∀ (L : List α), (∀ x ∈ L, (f x).length ≤ c) → (L.flatMap f).length ≤ L.length * c
  | [], _ => by simp
  | x :: L, h => by
    have h1 := h x (by simp)
    have h2 := flat_le f c L (fun y hy => h y (by simp [hy]))
    rw [List.flatMap_cons, List.length_append, List.length_cons, Nat.add_mul]
    omega
theorem allL_le {nb : Nat} (h : nb ≤ 4) : ∀ p, (allL nb p).length ≤ 4 ^ p
  | 0 => by simp [allL]
  | p + 1 => by
    have ih := allL_le h p
    simp only [allL]
    refine Nat.le_trans (flat_le _ (4 ^ p) _ fun b _ => by rw [List.length_map]; exact ih) ?_
    rw [List.length_range, Nat.pow_succ, Nat.mul_comm]
    exact Nat.mul_le_mul_left _ h
section
variable {bs : List Br} {ps : List Pc} {kf wr : Int} {l : List Nat} {p k : Nat}
theorem fit_ok (h : l.length ≤ 8) : okB bs ps kf 8 l = fitB bs ps kf l := by
  unfold okB
  have := wgB_len (bs := bs) (ps := ps) (l := l)
  rw [show decide ((wgB bs ps l : Int) ≤ 8) = true from decide_eq_true (by omega), Bool.and_true]
theorem allF_no (h : ckS bs ps kf wr = true) (hl : l.length + p ≤ ps.length) (ho : okB bs ps kf 8 l = false) : allF bs ps kf p l = [] := by
  obtain ⟨-, -, h4, h5, h6, h7⟩ := ckS_vals h
  unfold allF
  rw [List.filter_eq_nil_iff.2 fun m hm hk => ?_]
  · rfl
  · have hm := (allL_mem.1 hm).1
    have := okB_pre h4.1 (fun k hk => by have := (h7 k hk).1; omega) m l (by omega) hk
    rw [ho] at this
    cases this
theorem allF_0 (ho : okB bs ps kf 8 l = true) : allF bs ps kf 0 l = [l] := by
  unfold allF
  simp [allL, ho]
theorem allK_succ : allK bs ps kf p l (k + 1) = allK bs ps kf p l k ++ allF bs ps kf p (l ++ [k]) := by
  unfold allK
  rw [List.range_succ, List.flatMap_append]
  simp
theorem allF_succ : allF bs ps kf (p + 1) l = allK bs ps kf p l bs.length := by
  unfold allF allK
  simp only [allL]
  rw [List.filter_flatMap, List.map_flatMap]
  unfold List.flatMap
  congr 1
  refine List.map_congr_left fun b _ => ?_
  unfold allF
  rw [List.filter_map, List.map_map]
  have hcat : ∀ m : List Nat, l ++ b :: m = (l ++ [b]) ++ m := fun m => by simp
  have f1 : ((fun m => okB bs ps kf 8 (l ++ m)) ∘ (b :: ·)) = fun m => okB bs ps kf 8 (l ++ [b] ++ m) := funext fun m => by simp only [Function.comp]; rw [hcat]
  have f2 : ((l ++ ·) ∘ (b :: ·)) = fun m => l ++ [b] ++ m := funext fun m => by simp only [Function.comp]; rw [hcat]
  rw [f1, f2]
theorem allF_le (hb : bs.length ≤ 4) : (allF bs ps kf p l).length ≤ 4 ^ p := by
  unfold allF
  rw [List.length_map]
  exact Nat.le_trans (List.length_filter_le _ _) (allL_le hb p)
theorem allK_le (hb : bs.length ≤ 4) (hk : k ≤ 4) : (allK bs ps kf p l k).length ≤ 4 ^ (p + 1) := by
  unfold allK
  refine Nat.le_trans (flat_le _ (4 ^ p) _ fun b _ => allF_le hb) ?_
  rw [List.length_range, Nat.pow_succ, Nat.mul_comm]
  exact Nat.mul_le_mul_left _ hk
theorem allF_tr : allF bs ps kf ps.length [] = trL bs ps kf 8 := by
  unfold allF trL
  simp
/-- those of the first k that have few enough wrong marks -/
def trK (bs : List Br) (ps : List Pc) (kf wr : Int) (k : Nat) : List (List Nat) := ((trL bs ps kf 8).take k).filter fun l => decide ((wgB bs ps l : Int) ≤ wr)
theorem trK_succ (hk : k < (trL bs ps kf 8).length) : trK bs ps kf wr (k + 1) = trK bs ps kf wr k ++ (bif decide ((wgB bs ps (lAt (trL bs ps kf 8) k) : Int) ≤ wr) then [lAt (trL bs ps kf 8) k] else []) := by
  unfold trK
  rw [lAt_take hk, List.filter_append]
  cases e : decide ((wgB bs ps (lAt (trL bs ps kf 8) k) : Int) ≤ wr) <;> simp [e]
theorem trK_len : (trK bs ps kf wr k).length ≤ k := by
  unfold trK
  exact Nat.le_trans (List.length_filter_le _ _) (by rw [List.length_take]; omega)
theorem trK_all (hw : wr ≤ 8) : trK bs ps kf wr (trL bs ps kf 8).length = trL bs ps kf wr := by
  unfold trK
  rw [List.take_length]
  unfold trL
  rw [List.filter_filter]
  refine List.filter_congr fun l _ => ?_
  unfold okB
  rw [Bool.eq_iff_iff]
  simp only [Bool.and_eq_true, decide_eq_true_eq]
  constructor
  · rintro ⟨a, b, -⟩; exact ⟨b, a⟩
  · rintro ⟨a, b⟩; exact ⟨b, a, by omega⟩
theorem trL_le (hb : bs.length ≤ 4) (hp : ps.length ≤ 5) : (trL bs ps kf wr).length ≤ 1024 := by
  unfold trL
  refine Nat.le_trans (List.length_filter_le _ _) (Nat.le_trans (allL_le hb _) ?_)
  exact Nat.le_trans (Nat.pow_le_pow_right (by omega) hp) (by decide)
end

end Go.Proofs.Ytdhlnlmhdacblaa

namespace Go.Proofs.Ytdhlnlmhdacblaa
open Go.RowKit
open Go.Sort (grow)
set_option linter.unusedVariables false
set_option linter.unusedSimpArgs false

/-- what the saw takes of all bars together -/
def kfC (nb : Nat) (kf : Int) (l : List Nat) : Int := ((List.range nb).map fun b => kf * ((l.count b - 1 : Nat) : Int)).sum
/-- what is left of all bars together -/
def rsT (bs : List Br) (ps : List Pc) (kf : Int) (l : List Nat) : Int := ((List.range bs.length).map fun b => rsB bs ps kf l b).sum
def brS (bs : List Br) : Int := (bs.map (·.long)).sum
def pcS (ps : List Pc) : Int := (ps.map (·.long)).sum
theorem sum_succ {n : Nat} {f : Nat → Int} : ((List.range (n + 1)).map f).sum = ((List.range n).map f).sum + f n := by
  rw [List.range_succ, List.map_append, List.sum_append]; simp
theorem sum_add {n : Nat} {f g : Nat → Int} : ((List.range n).map fun b => f b + g b).sum = ((List.range n).map f).sum + ((List.range n).map g).sum := by
  induction n with
  | zero => simp
  | succ n ih => rw [sum_succ, sum_succ, sum_succ, ih]; omega
theorem sum_zero {n : Nat} : ((List.range n).map fun _ => (0 : Int)).sum = 0 := by
  induction n with
  | zero => simp
  | succ n ih => rw [sum_succ, ih]; rfl
theorem sum_one {n c : Nat} {v : Int} (h : c < n) : ((List.range n).map fun b => bif c == b then v else 0).sum = v := by
  induction n with
  | zero => omega
  | succ n ih =>
    rw [sum_succ]
    by_cases e : c = n
    · subst e
      have : ((List.range c).map fun b => bif c == b then v else 0) = (List.range c).map fun _ => (0 : Int) := List.map_congr_left fun b hb => by
        have := List.mem_range.1 hb
        rw [show (c == b) = false by rw [beq_eq_false_iff_ne]; omega]; rfl
      rw [this, sum_zero]; simp
    · rw [ih (by omega), show (c == n) = false by rw [beq_eq_false_iff_ne]; exact e]; simp
theorem sum_mul {n : Nat} {k : Int} {f : Nat → Int} : ((List.range n).map fun b => k * f b).sum = k * ((List.range n).map f).sum := by
  induction n with
  | zero => simp
  | succ n ih => rw [sum_succ, sum_succ, ih, Int.mul_add]
theorem sum_count {n : Nat} : ∀ {l : List Nat}, (∀ b ∈ l, b < n) → ((List.range n).map fun b => ((l.count b : Nat) : Int)).sum = l.length
  | [], _ => by simp [sum_zero]
  | c :: l, h => by
    have ih := sum_count (l := l) (n := n) fun b hb => h b (by simp [hb])
    have e : (fun b => (((c :: l).count b : Nat) : Int)) = fun b => (bif c == b then (1 : Int) else 0) + ((l.count b : Nat) : Int) := funext fun b => by
      rw [List.count_cons]
      cases h : (c == b) <;> simp [h]; omega
    rw [e, sum_add, ih, sum_one (h c (by simp))]
    simp; omega
theorem us_sum {n : Nat} {l : List Nat} : ((usL n l : Nat) : Int) = ((List.range n).map fun b => bif decide (0 < l.count b) then (1 : Int) else 0).sum := by
  induction n with
  | zero => simp [usL]
  | succ n ih =>
    rw [usL_succ, sum_succ, ← ih]
    cases decide (0 < l.count n) <;> simp
theorem cnt_less {n : Nat} {l : List Nat} (h : ∀ b ∈ l, b < n) : ((List.range n).map fun b => ((l.count b - 1 : Nat) : Int)).sum = (l.length : Int) - (usL n l : Nat) := by
  have e : (fun b => ((l.count b : Nat) : Int)) = fun b => ((l.count b - 1 : Nat) : Int) + (bif decide (0 < l.count b) then (1 : Int) else 0) := funext fun b => by
    cases hd : decide (0 < l.count b)
    · have : ¬ 0 < l.count b := by simpa using hd
      simp; omega
    · have : 0 < l.count b := by simpa using hd
      simp; omega
  have h1 := sum_count h
  rw [e, sum_add, ← us_sum] at h1
  omega
theorem kfC_eq {nb : Nat} {kf : Int} {l : List Nat} (h : ∀ b ∈ l, b < nb) : kfC nb kf l = kf * ((l.length : Int) - (usL nb l : Nat)) := by
  unfold kfC
  rw [sum_mul, cnt_less h]
theorem smB_sum {nb : Nat} : ∀ {ps : List Pc} {l : List Nat}, l.length = ps.length → (∀ b ∈ l, b < nb) → ((List.range nb).map fun b => smB ps l b).sum = pcS ps
  | [], l, hl, _ => by
    have : l = [] := List.eq_nil_of_length_eq_zero (by simpa using hl)
    subst this
    simp [smB, pcS, sum_zero]
  | p :: ps, [], hl, _ => by simp at hl
  | p :: ps, c :: l, hl, h => by
    have ih := smB_sum (ps := ps) (l := l) (nb := nb) (by simpa using hl) fun b hb => h b (by simp [hb])
    have e : (fun b => smB (p :: ps) (c :: l) b) = fun b => (bif c == b then p.long else 0) + smB ps l b := funext fun b => by
      unfold smB
      rw [List.zip_cons_cons, List.map_cons, List.sum_cons]
    rw [e, sum_add, ih, sum_one (h c (by simp))]
    simp [pcS]
theorem brS_sum {bs : List Br} : ((List.range bs.length).map fun b => (brAt bs b).long).sum = brS bs := by
  unfold brS
  congr 1
  refine List.ext_getElem (by simp) fun i h1 h2 => ?_
  simp only [List.length_map] at h2
  rw [List.getElem_map, List.getElem_range, List.getElem_map]
  unfold brAt
  rw [List.getD_eq_getElem?_getD, List.getElem?_eq_getElem h2]; rfl
theorem rsT_eq {bs : List Br} {ps : List Pc} {kf : Int} {l : List Nat} (hl : l.length = ps.length) (h : ∀ b ∈ l, b < bs.length) : rsT bs ps kf l = brS bs - pcS ps - kfC bs.length kf l := by
  have e : (fun b => (brAt bs b).long) = fun b => rsB bs ps kf l b + (smB ps l b + kf * ((l.count b - 1 : Nat) : Int)) := funext fun b => by unfold rsB; omega
  have h1 := brS_sum (bs := bs)
  rw [e, sum_add, sum_add, smB_sum hl h] at h1
  have h2 : rsT bs ps kf l = ((List.range bs.length).map (rsB bs ps kf l)).sum := rfl
  have h3 : kfC bs.length kf l = ((List.range bs.length).map fun b => kf * ((l.count b - 1 : Nat) : Int)).sum := rfl
  rw [h2, h3]
  omega
/-- what both spans are, over all truths: of the bars with pieces the least and the greatest number -/
theorem sawn_ends {nb np : Nat} {kf L : Int} {T : List (List Nat)} {lo hi : Nat} (hk : 0 ≤ kf) (hm : ∀ l ∈ T, lo ≤ usL nb l ∧ usL nb l ≤ hi) (h1 : ∃ l ∈ T, usL nb l = lo) (h2 : ∃ l ∈ T, usL nb l = hi) :
    (∀ l ∈ T, kf * ((np : Int) - hi) ≤ kf * ((np : Int) - (usL nb l : Nat)) ∧ kf * ((np : Int) - (usL nb l : Nat)) ≤ kf * ((np : Int) - lo)) ∧ (∃ l ∈ T, kf * ((np : Int) - (usL nb l : Nat)) = kf * ((np : Int) - hi)) ∧ ∃ l ∈ T, kf * ((np : Int) - (usL nb l : Nat)) = kf * ((np : Int) - lo) := by
  refine ⟨fun l hl => ?_, ?_, ?_⟩
  · have := hm l hl
    exact ⟨Int.mul_le_mul_of_nonneg_left (by omega) hk, Int.mul_le_mul_of_nonneg_left (by omega) hk⟩
  · obtain ⟨l, hl, e⟩ := h2
    exact ⟨l, hl, by rw [e]⟩
  · obtain ⟨l, hl, e⟩ := h1
    exact ⟨l, hl, by rw [e]⟩

end Go.Proofs.Ytdhlnlmhdacblaa

namespace Go.Proofs.Ytdhlnlmhdacblaa
open Go.RowKit
open Go.Sort (grow)
set_option linter.unusedVariables false
set_option linter.unusedSimpArgs false

section
variable {bs : List Br} {ps : List Pc} {kf wr : Int} {l : List Nat} {p k b : Nat} {best : Nat}
theorem us_snoc {nb' : Nat} (hb : b < nb') : usL nb' (l ++ [b]) = usL nb' l + (bif decide (0 < l.count b) then 0 else 1) := by
  have h1 := us_sum (n := nb') (l := l ++ [b])
  have h2 := us_sum (n := nb') (l := l)
  have e : (fun c => bif decide (0 < (l ++ [b]).count c) then (1 : Int) else 0) = fun c => (bif decide (0 < l.count c) then (1 : Int) else 0) + (bif b == c then (bif decide (0 < l.count b) then 0 else 1) else 0) := funext fun c => by
    rw [count_snoc]
    cases e1 : (b == c)
    · simp
    · have : b = c := by simpa using e1
      subst this
      cases e2 : decide (0 < l.count b) <;> simp at e2 ⊢ <;> simp [e2]
  rw [e, sum_add, ← h2, sum_one hb] at h1
  cases hd : decide (0 < l.count b)
  · rw [hd] at h1
    simp only [cond_false] at h1 ⊢
    omega
  · rw [hd] at h1
    simp only [cond_true] at h1 ⊢
    omega
theorem us_app {nb : Nat} : ∀ (m l : List Nat), (∀ b ∈ m, b < nb) → usL nb (l ++ m) ≤ usL nb l + m.length ∧ usL nb l ≤ usL nb (l ++ m)
  | [], l, _ => by simp
  | b :: m, l, h => by
    have ih := us_app m (l ++ [b]) fun c hc => h c (by simp [hc])
    have h1 := us_snoc (l := l) (h b (by simp))
    have e : l ++ b :: m = l ++ [b] ++ m := by simp
    rw [e]
    simp only [List.length_cons]
    cases hd : decide (0 < l.count b)
    · rw [hd] at h1
      simp only [cond_false] at h1
      omega
    · rw [hd] at h1
      simp only [cond_true] at h1
      omega
/-- what can come behind a sawing that fits -/
def cplL (bs : List Br) (ps : List Pc) (kf wr : Int) (p : Nat) (l : List Nat) : List (List Nat) := (allL bs.length p).filter fun m => okB bs ps kf wr (l ++ m)
/-- the greatest number that is found behind it -/
def cutV (bs : List Br) (ps : List Pc) (kf wr : Int) (p : Nat) (l : List Nat) (best : Nat) : Nat := (cplL bs ps kf wr p l).foldl (fun x m => max x (usL bs.length (l ++ m))) best
def cutK (bs : List Br) (ps : List Pc) (kf wr : Int) (p : Nat) (l : List Nat) (k : Nat) (best : Nat) : Nat := (List.range k).foldl (fun x b => bif okB bs ps kf wr (l ++ [b]) then cutV bs ps kf wr p (l ++ [b]) x else x) best
theorem cutV_0 (h : okB bs ps kf wr l = true) : cutV bs ps kf wr 0 l best = max best (usL bs.length l) := by
  simp [cutV, cplL, allL, h]
theorem fold_same {α : Type} {f : α → Nat} : ∀ {T : List α} {x : Nat}, (∀ m ∈ T, f m ≤ x) → T.foldl (fun x m => max x (f m)) x = x
  | [], _, _ => rfl
  | m :: T, x, h => by
    rw [List.foldl_cons, show max x (f m) = x from Nat.max_eq_left (h m (by simp))]
    exact fold_same fun n hn => h n (by simp [hn])
theorem cutV_cut (h : usL bs.length l + p ≤ best) : cutV bs ps kf wr p l best = best := by
  unfold cutV
  refine fold_same fun m hm => ?_
  obtain ⟨h1, h2⟩ := allL_mem.1 (List.mem_filter.1 hm).1
  have := (us_app m l h2).1
  omega
theorem cutK_0 : cutK bs ps kf wr p l 0 best = best := rfl
theorem cutK_succ : cutK bs ps kf wr p l (k + 1) best = bif okB bs ps kf wr (l ++ [k]) then cutV bs ps kf wr p (l ++ [k]) (cutK bs ps kf wr p l k best) else cutK bs ps kf wr p l k best := by
  unfold cutK
  rw [List.range_succ, List.foldl_append]; rfl
theorem cutV_succ (hk : 0 ≤ kf) (hp : ∀ k, k < ps.length → 0 ≤ (pcAt ps k).long) (hl : l.length + (p + 1) ≤ ps.length) : cutV bs ps kf wr (p + 1) l best = cutK bs ps kf wr p l bs.length best := by
  have hcat : ∀ (b : Nat) (m : List Nat), l ++ b :: m = (l ++ [b]) ++ m := fun b m => by simp
  unfold cutV cutK cplL
  simp only [allL]
  rw [List.filter_flatMap, List.foldl_flatMap]
  congr 1
  funext x b
  rw [List.filter_map, List.foldl_map]
  have f1 : ((fun m => okB bs ps kf wr (l ++ m)) ∘ (b :: ·)) = fun m => okB bs ps kf wr (l ++ [b] ++ m) := funext fun m => by simp only [Function.comp]; rw [hcat]
  have f2 : (fun (x : Nat) (m : List Nat) => max x (usL bs.length (l ++ b :: m))) = fun x m => max x (usL bs.length (l ++ [b] ++ m)) := funext fun x => funext fun m => by rw [hcat]
  rw [f1, f2]
  cases e : okB bs ps kf wr (l ++ [b])
  · rw [List.filter_eq_nil_iff.2 fun m hm h => ?_]
    · rfl
    · have := okB_pre hk hp m (l ++ [b]) (by have := (allL_mem.1 hm).1; simp; omega) h
      rw [this] at e
      cases e
  · rfl
theorem fold_max {α : Type} {f : α → Nat} : ∀ {T : List α} {x : Nat}, x ≤ T.foldl (fun x m => max x (f m)) x ∧ (∀ m ∈ T, f m ≤ T.foldl (fun x m => max x (f m)) x) ∧ (T.foldl (fun x m => max x (f m)) x = x ∨ ∃ m ∈ T, f m = T.foldl (fun x m => max x (f m)) x)
  | [], x => ⟨Nat.le_refl _, fun m hm => (by cases hm), .inl rfl⟩
  | n :: T, x => by
    obtain ⟨h1, h2, h3⟩ := fold_max (T := T) (x := max x (f n)) (f := f)
    rw [List.foldl_cons]
    refine ⟨Nat.le_trans (Nat.le_max_left _ _) h1, fun m hm => ?_, ?_⟩
    · rcases List.mem_cons.1 hm with rfl | hm
      · exact Nat.le_trans (Nat.le_max_right _ _) h1
      · exact h2 m hm
    · rcases h3 with h3 | ⟨m, hm, h3⟩
      · rcases Nat.le_total x (f n) with c | c
        · exact .inr ⟨n, by simp, by rw [h3, Nat.max_eq_right c]⟩
        · exact .inl (by rw [h3, Nat.max_eq_left c])
      · exact .inr ⟨m, by simp [hm], h3⟩
/-- from the least number on, the greatest is found -/
theorem cut_best (h : ckS bs ps kf wr = true) {lo : Nat} (h1 : ∃ l ∈ trL bs ps kf wr, usL bs.length l = lo) :
    (∀ l ∈ trL bs ps kf wr, usL bs.length l ≤ cutV bs ps kf wr ps.length [] lo) ∧ ∃ l ∈ trL bs ps kf wr, usL bs.length l = cutV bs ps kf wr ps.length [] lo := by
  have e : cplL bs ps kf wr ps.length [] = trL bs ps kf wr := by unfold cplL trL; simp
  unfold cutV
  rw [e]
  simp only [List.nil_append]
  obtain ⟨-, a2, a3⟩ := fold_max (f := usL bs.length) (T := trL bs ps kf wr) (x := lo)
  refine ⟨a2, ?_⟩
  rcases a3 with a3 | ⟨m, hm, a3⟩
  · obtain ⟨l, hl, el⟩ := h1
    exact ⟨l, hl, by rw [a3]; exact el⟩
  · exact ⟨m, hm, a3⟩
end

end Go.Proofs.Ytdhlnlmhdacblaa
