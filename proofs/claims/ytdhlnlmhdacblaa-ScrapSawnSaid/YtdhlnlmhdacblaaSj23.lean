/- Strange of bars (layer 1); What BarsTrue asks, in plain terms (layer 1). -/
import Derived.BigRegionIn
import Derived.Shelf.RegionOpen
import Derived.Handy
import Derived.LoopIn
import Derived.Test.YtdhlnlmhdacblaaSj15
import Derived.Test.YtdhlnlmhdacblaaSj21
import Derived.Test.YtdhlnlmhdacblaaSj22
namespace Go.Proofs.Ytdhlnlmhdacblaa
open Go.RowKit
open Go.Sort (grow)
set_option linter.unusedVariables false
set_option linter.unusedSimpArgs false

attribute [local go_sem] Oper.semAt_some
/-- the mark of a piece is right -/
def rtB (bs : List Br) (ps : List Pc) (j : Nat) (x : Sw) : Bool := !wrB bs ps j (iAt x.of j).toNat
def rgL (bs : List Br) (ps : List Pc) (np : Nat) (T : List Sw) (k q : Nat) : List Int := (List.range np).map fun (j : Nat) => (cntL (rtB bs ps j) T (if j < q then k + 1 else k) : Int)
section
variable {bs : List Br} {ps : List Pc} {np k q : Nat} {T : List Sw}
theorem rgL_len (bs : List Br) (ps : List Pc) (np : Nat) (T : List Sw) (k q : Nat) : (rgL bs ps np T k q).length = np := by simp [rgL]
theorem rgL_get (j : Nat) (hj : j < np) : (rgL bs ps np T k q)[j]? = some (cntL (rtB bs ps j) T (if j < q then k + 1 else k) : Int) := by
  unfold rgL
  rw [List.getElem?_map, List.getElem?_range hj]; rfl
theorem rgL_at {j : Nat} (hj : j < np) : iAt (rgL bs ps np T k q) j = (cntL (rtB bs ps j) T (if j < q then k + 1 else k) : Int) := by
  unfold iAt
  rw [List.getD_eq_getElem?_getD, rgL_get j hj]; rfl
theorem rgL_0 (bs : List Br) (ps : List Pc) (np : Nat) (T : List Sw) : rgL bs ps np T 0 0 = List.replicate np 0 := by
  apply List.ext_getElem?
  intro j
  rw [List.getElem?_replicate]
  by_cases hj : j < np
  · rw [rgL_get j hj, if_pos hj, if_neg (by omega), cntL_0]; rfl
  · rw [List.getElem?_eq_none (by rw [rgL_len]; omega), if_neg hj]
theorem rgL_all (bs : List Br) (ps : List Pc) (np : Nat) (T : List Sw) (k : Nat) : rgL bs ps np T k np = rgL bs ps np T (k + 1) 0 := by
  apply List.ext_getElem?
  intro j
  by_cases hj : j < np
  · rw [rgL_get j hj, rgL_get j hj, if_pos hj, if_neg (by omega)]
  · rw [List.getElem?_eq_none (by rw [rgL_len]; omega), List.getElem?_eq_none (by rw [rgL_len]; omega)]
theorem rgL_yes {x : Sw} (h : T[k]? = some x) (hq : q < np) (hr : rtB bs ps q x = true) : rgL bs ps np T k (q + 1) = (rgL bs ps np T k q).set q (iAt (rgL bs ps np T k q) q + 1) := by
  apply List.ext_getElem?
  intro j
  rw [List.getElem?_set]
  by_cases hj : j < np
  · rw [rgL_get j hj, rgL_get j hj]
    by_cases e : q = j
    · subst e
      rw [if_pos rfl, if_pos (show q < (rgL bs ps np T k q).length by rw [rgL_len]; exact hq), rgL_at hq, if_pos (Nat.lt_succ_self q), if_neg (Nat.lt_irrefl q), cntL_succ h, hr]
      simp
    · rw [if_neg e]
      by_cases h1 : j < q
      · rw [if_pos h1, if_pos (by omega)]
      · rw [if_neg h1, if_neg (by omega)]
  · rw [List.getElem?_eq_none (by rw [rgL_len]; omega), if_neg (by omega), List.getElem?_eq_none (by rw [rgL_len]; omega)]
theorem rgL_no {x : Sw} (h : T[k]? = some x) (hr : rtB bs ps q x = false) : rgL bs ps np T k (q + 1) = rgL bs ps np T k q := by
  apply List.ext_getElem?
  intro j
  by_cases hj : j < np
  · rw [rgL_get j hj, rgL_get j hj]
    by_cases e : q = j
    · subst e
      rw [if_pos (by omega), if_neg (by omega), cntL_succ h, hr]
      simp
    · by_cases h1 : j < q
      · rw [if_pos h1, if_pos (by omega)]
      · rw [if_neg h1, if_neg (by omega)]
  · rw [List.getElem?_eq_none (by rw [rgL_len]; omega), List.getElem?_eq_none (by rw [rgL_len]; omega)]
end
def stL (bs : List Br) (ps : List Pc) (T : List Sw) (k : Nat) : List Int := ((List.range k).filter fun (j : Nat) => T.countP (rtB bs ps j) == 0).map fun (j : Nat) => (j : Int)
theorem stL_len (bs : List Br) (ps : List Pc) (T : List Sw) (k : Nat) : (stL bs ps T k).length ≤ k := by
  unfold stL
  rw [List.length_map]
  exact Nat.le_trans (List.length_filter_le _ _) (by simp)
theorem stL_yes {bs : List Br} {ps : List Pc} {T : List Sw} {k : Nat} (h : T.countP (rtB bs ps k) = 0) : stL bs ps T (k + 1) = stL bs ps T k ++ [(k : Int)] := by
  unfold stL
  generalize hq : (fun (j : Nat) => T.countP (rtB bs ps j) == 0) = q
  have hqk : q k = true := by rw [← hq]; show (T.countP (rtB bs ps k) == 0) = true; rw [h]; rfl
  rw [List.range_succ, List.filter_append, List.map_append]; simp [hqk]
theorem stL_no {bs : List Br} {ps : List Pc} {T : List Sw} {k : Nat} (h : T.countP (rtB bs ps k) ≠ 0) : stL bs ps T (k + 1) = stL bs ps T k := by
  unfold stL
  generalize hq : (fun (j : Nat) => T.countP (rtB bs ps j) == 0) = q
  have hqk : q k = false := by rw [← hq]; show (T.countP (rtB bs ps k) == 0) = false; exact beq_false_of_ne h
  rw [List.range_succ, List.filter_append, List.map_append]; simp [hqk]
def strP (bs : List Br) (ps : List Pc) (kf wr : Int) : List Int := bif askE bs ps kf wr true == 0 then stL bs ps (swA bs ps kf wr) ps.length else []

end Go.Proofs.Ytdhlnlmhdacblaa

namespace Go.Proofs.Ytdhlnlmhdacblaa
open Go.RowKit
open Go.Sort (grow)
set_option linter.unusedVariables false
set_option linter.unusedSimpArgs false

section
variable {bs : List Br} {ps : List Pc} {kf wr lg : Int} {l : List Nat} {a b c p : Nat}
theorem true_law (h : ckS bs ps kf wr = true) (hl : l ∈ trL bs ps kf wr) :
    fitP bs ps kf wr (toI l) = (true, 0) ∧ askE bs ps kf wr true = 0 ∧ (fewP bs ps kf wr).2 = 0 ∧ (0 ≤ (fewP bs ps kf wr).1 ∧ (fewP bs ps kf wr).1 ≤ (wgB bs ps l : Nat)) ∧ 0 ≤ leastP bs ps kf wr ∧ leastP bs ps kf wr ≤ (usL bs.length l : Nat) := by
  obtain ⟨-, -, h4, h5, h6, h7⟩ := ckS_vals h
  have hne : trL bs ps kf wr ≠ [] := fun e => by rw [e] at hl; cases hl
  obtain ⟨⟨k1, k2⟩, k3⟩ := trL_mem.1 hl
  refine ⟨?_, by rw [askE_ok h, if_neg hne], ?_⟩
  · unfold fitP
    have e1 : isSw bs.length ps.length (toI l) = true := isSw_toI k1 k2
    unfold isSw at e1
    rw [Bool.and_comm] at e1
    have e2 : ((swA bs ps kf wr).any fun x => eqI x.of (toI l)) = true := by
      rw [swA_ok h h5.1]
      refine List.any_eq_true.2 ⟨_, List.mem_map.2 ⟨l, hl, rfl⟩, ?_⟩
      show eqI (toI l) (toI l) = true
      unfold eqI
      simp [allN_iff]
    rw [h, e1, e2]; rfl
  · have h8 : l ∈ trL bs ps kf 8 := trL_mem.2 ⟨⟨k1, k2⟩, ok_more k3 h5.2⟩
    rcases few_ok h with ⟨-, e⟩ | ⟨r, e, -, hr⟩
    · rw [e] at h8; cases h8
    · rw [e]
      have := hr l h8
      refine ⟨rfl, ⟨by show (0 : Int) ≤ (r : Int); omega, by show (r : Int) ≤ _; omega⟩, ?_⟩
      rcases least_ok h with ⟨e, -⟩ | ⟨m, -, e, hm⟩
      · exact absurd e hne
      · have := hm l hl
        rw [e]; omega
theorem true_str (h : ckS bs ps kf wr = true) (hl : l ∈ trL bs ps kf wr) :
    (strP bs ps kf wr).length ≤ ps.length ∧ ∀ j, j < (strP bs ps kf wr).length → ∃ k : Nat, k < ps.length ∧ iAt (strP bs ps kf wr) j = (k : Int) ∧ wrB bs ps k (gN l k) = true := by
  have hne : trL bs ps kf wr ≠ [] := fun e => by rw [e] at hl; cases hl
  have e0 : strP bs ps kf wr = stL bs ps (swA bs ps kf wr) ps.length := by
    unfold strP; rw [askE_ok h, if_neg hne]; rfl
  rw [e0]
  refine ⟨?_, fun j hj => ?_⟩
  · unfold stL
    rw [List.length_map]
    exact Nat.le_trans (List.length_filter_le _ _) (by simp)
  · have hm := iAt_mem hj
    unfold stL at hm
    obtain ⟨k, hk, e⟩ := List.mem_map.1 hm
    obtain ⟨h1, h2⟩ := List.mem_filter.1 hk
    refine ⟨k, List.mem_range.1 h1, e.symm, ?_⟩
    have h2 : (swA bs ps kf wr).countP (rtB bs ps k) = 0 := by simpa using h2
    rw [List.countP_eq_zero] at h2
    have := h2 _ (by rw [swA_ok h (ckS_vals h).2.2.2.1.1]; exact List.mem_map.2 ⟨l, hl, rfl⟩)
    unfold rtB at this
    simp only [swOf, toI_at, Int.toNat_natCast] at this
    simpa using this
theorem true_rest (h : ckS bs ps kf wr = true) (hl : l ∈ trL bs ps kf wr) (hb : b < bs.length) :
    (restP bs ps kf wr b).2 = 0 ∧ (restP bs ps kf wr b).1.lo ≤ rsB bs ps kf l b ∧ rsB bs ps kf l b ≤ (restP bs ps kf wr b).1.hi := by
  have hne : trL bs ps kf wr ≠ [] := fun e => by rw [e] at hl; cases hl
  rw [rest_ok h hb, if_neg hne]
  have := (spF_fold ((trL bs ps kf wr).map fun l => rsB bs ps kf l b) ⟨999, 0⟩).2.2.1 _ (List.mem_map.2 ⟨l, hl, rfl⟩)
  exact ⟨rfl, this.1, this.2⟩
theorem kn_agr {α : Type} {p : α → Bool} {L : List α} {x : α} (hx : x ∈ L) : agrB (knP p L) (p x) = true := by
  have hne : L ≠ [] := fun e => by rw [e] at hx; cases hx
  rcases knP_vals (p := p) hne with ⟨e, h⟩ | ⟨e, h⟩ | ⟨e, -⟩
  · rw [e, h x hx]; rfl
  · rw [e, h x hx]; rfl
  · rw [e]; rfl
theorem room_ok (h : ckS bs ps kf wr = true) (hne : trL bs ps kf wr ≠ []) : roomP bs ps kf wr lg = if wi lg 1 999 = true then (knP (fun l => hrB bs ps kf lg l) (trL bs ps kf wr), 0) else (0, 1) := by
  unfold roomP
  cases wi lg 1 999
  · have : askE bs ps kf wr false = 1 := by unfold askE; rw [h]; rfl
    rw [this]; rfl
  · rw [askE_ok h, if_neg hne, swA_ok h (ckS_vals h).2.2.2.1.1, knP_map]; rfl
theorem true_room (h : ckS bs ps kf wr = true) (hl : l ∈ trL bs ps kf wr) :
    ((roomP bs ps kf wr lg).2 = 1) ∨ ((roomP bs ps kf wr lg).2 = 0 ∧ wi lg 1 999 = true ∧ agrB (roomP bs ps kf wr lg).1 (hrB bs ps kf lg l) = true) := by
  have hne : trL bs ps kf wr ≠ [] := fun e => by rw [e] at hl; cases hl
  rw [room_ok h hne]
  cases e : wi lg 1 999
  · exact .inl rfl
  · exact .inr ⟨rfl, rfl, kn_agr (p := fun l => hrB bs ps kf lg l) hl⟩
theorem true_of (h : ckS bs ps kf wr = true) (hl : l ∈ trL bs ps kf wr) (ha : a < ps.length) (hc : c < ps.length) :
    hasI (ofP bs ps kf wr a) (gN l a : Nat) = true ∧ hasI (heatsP bs ps kf wr a) (brAt bs (gN l a)).heat = true ∧ (alikeP bs ps kf wr a c).2 = 0 ∧ agrB (alikeP bs ps kf wr a c).1 (gN l a == gN l c) = true := by
  have hne : trL bs ps kf wr ≠ [] := fun e => by rw [e] at hl; cases hl
  obtain ⟨⟨k1, k2⟩, k3⟩ := trL_mem.1 hl
  refine ⟨?_, ?_, ?_⟩
  · rw [of_ok h hne ha, hasI_mem, uptoL_mem]
    exact ⟨gN l a, k2 _ (gN_lt (by omega)), List.any_eq_true.2 ⟨l, hl, by simp⟩, rfl⟩
  · rw [hasI_mem, heats_mem h ha]
    exact ⟨l, hl, rfl⟩
  · rw [alike_ok h ha hc, if_neg hne]
    exact ⟨rfl, kn_agr (p := fun l => gN l a == gN l c) hl⟩
theorem ofP_le : (ofP bs ps kf wr lg).length ≤ bs.length := ofP_len
theorem heatsP_le (h : ckS bs ps kf wr = true) (ha : a < ps.length) : (heatsP bs ps kf wr a).length ≤ 10 := by
  have h1 : (heatsP bs ps kf wr a).Nodup := by
    have e0 : heatsP bs ps kf wr a = srtC (htL bs (ofP bs ps kf wr a)) := rfl
    rw [e0]
    exact (srtC_asc _).imp (fun h => by omega)
  have h2 := nodup_le _ htA h1 (fun v hv => by
    obtain ⟨l, hl, e⟩ := (heats_mem h ha).1 hv
    obtain ⟨⟨k1, k2⟩, -⟩ := trL_mem.1 hl
    have := ((ckS_vals h).2.2.2.2.1 _ (k2 _ (gN_lt (l := l) (p := a) (by omega)))).1
    exact hasI_mem.1 (htA_has (by omega) (by omega)))
  exact h2
end

def allF (bs : List Br) (ps : List Pc) (kf : Int) (p : Nat) (l : List Nat) : List (List Nat) := ((allL bs.length p).filter fun m => okB bs ps kf 8 (l ++ m)).map (l ++ ·)
def allK (bs : List Br) (ps : List Pc) (kf : Int) (p : Nat) (l : List Nat) (k : Nat) : List (List Nat) := (List.range k).flatMap fun b => allF bs ps kf p (l ++ [b])
def lAt (L : List (List Nat)) (k : Nat) : List Nat := L.getD k []
theorem xAt_map {L : List (List Nat)} {k : Nat} : xAt (L.map toI) k = toI (lAt L k) := by
  unfold xAt lAt
  rw [List.getD_eq_getElem?_getD, List.getD_eq_getElem?_getD, List.getElem?_map]
  cases L[k]? <;> rfl
theorem lAt_mem {L : List (List Nat)} {k : Nat} (h : k < L.length) : lAt L k ∈ L := by
  unfold lAt
  rw [List.getD_eq_getElem?_getD, List.getElem?_eq_getElem h]; exact List.getElem_mem h
theorem lAt_take {L : List (List Nat)} {k : Nat} (h : k < L.length) : L.take (k + 1) = L.take k ++ [lAt L k] := by
  unfold lAt
  rw [List.take_add_one, List.getD_eq_getElem?_getD, List.getElem?_eq_getElem h]; rfl
theorem flat_le {α β : Type} (f : α → List β) (c : Nat) : ∀ (L : List α), (∀ x ∈ L, (f x).length ≤ c) → (L.flatMap f).length ≤ L.length * c
  | [], _ => by simp
  | x :: L, h => by
    have h1 := h x (by simp)
    have h2 := flat_le f c L (fun y hy => h y (by simp [hy]))
    rw [List.flatMap_cons, List.length_append, List.length_cons, Nat.add_mul]
    omega
theorem allL_le {nb : Nat} (h : nb ≤ 4) : ∀ p, (allL nb p).length ≤ 4 ^ p
  | 0 => by simp [allL]
  | p + 1 => by
    have ih := allL_le h p
    simp only [allL]
    refine Nat.le_trans (flat_le _ (4 ^ p) _ fun b _ => by rw [List.length_map]; exact ih) ?_
    rw [List.length_range, Nat.pow_succ, Nat.mul_comm]
    exact Nat.mul_le_mul_left _ h
section
variable {bs : List Br} {ps : List Pc} {kf wr : Int} {l : List Nat} {p k : Nat}
theorem fit_ok (h : l.length ≤ 8) : okB bs ps kf 8 l = fitB bs ps kf l := by
  unfold okB
  have := wgB_len (bs := bs) (ps := ps) (l := l)
  rw [show decide ((wgB bs ps l : Int) ≤ 8) = true from decide_eq_true (by omega), Bool.and_true]
theorem allF_no (h : ckS bs ps kf wr = true) (hl : l.length + p ≤ ps.length) (ho : okB bs ps kf 8 l = false) : allF bs ps kf p l = [] := by
  obtain ⟨-, -, h4, h5, h6, h7⟩ := ckS_vals h
  unfold allF
  rw [List.filter_eq_nil_iff.2 fun m hm hk => ?_]
  · rfl
  · have hm := (allL_mem.1 hm).1
    have := okB_pre h4.1 (fun k hk => by have := (h7 k hk).1; omega) m l (by omega) hk
    rw [ho] at this
    cases this
theorem allF_0 (ho : okB bs ps kf 8 l = true) : allF bs ps kf 0 l = [l] := by
  unfold allF
  simp [allL, ho]
theorem allK_succ : allK bs ps kf p l (k + 1) = allK bs ps kf p l k ++ allF bs ps kf p (l ++ [k]) := by
  unfold allK
  rw [List.range_succ, List.flatMap_append]
  simp
theorem allF_succ : allF bs ps kf (p + 1) l = allK bs ps kf p l bs.length := by
  unfold allF allK
  simp only [allL]
  rw [List.filter_flatMap, List.map_flatMap]
  unfold List.flatMap
  congr 1
  refine List.map_congr_left fun b _ => ?_
  unfold allF
  rw [List.filter_map, List.map_map]
  have hcat : ∀ m : List Nat, l ++ b :: m = (l ++ [b]) ++ m := fun m => by simp
  have f1 : ((fun m => okB bs ps kf 8 (l ++ m)) ∘ (b :: ·)) = fun m => okB bs ps kf 8 (l ++ [b] ++ m) := funext fun m => by simp only [Function.comp]; rw [hcat]
  have f2 : ((l ++ ·) ∘ (b :: ·)) = fun m => l ++ [b] ++ m := funext fun m => by simp only [Function.comp]; rw [hcat]
  rw [f1, f2]
theorem allF_le (hb : bs.length ≤ 4) : (allF bs ps kf p l).length ≤ 4 ^ p := by
  unfold allF
  rw [List.length_map]
  exact Nat.le_trans (List.length_filter_le _ _) (allL_le hb p)
theorem allK_le (hb : bs.length ≤ 4) (hk : k ≤ 4) : (allK bs ps kf p l k).length ≤ 4 ^ (p + 1) := by
  unfold allK
  refine Nat.le_trans (flat_le _ (4 ^ p) _ fun b _ => allF_le hb) ?_
  rw [List.length_range, Nat.pow_succ, Nat.mul_comm]
  exact Nat.mul_le_mul_left _ hk
theorem allF_tr : allF bs ps kf ps.length [] = trL bs ps kf 8 := by
  unfold allF trL
  simp
/-- those of the first k that have few enough wrong marks -/
def trK (bs : List Br) (ps : List Pc) (kf wr : Int) (k : Nat) : List (List Nat) := ((trL bs ps kf 8).take k).filter fun l => decide ((wgB bs ps l : Int) ≤ wr)
theorem trK_succ (hk : k < (trL bs ps kf 8).length) : trK bs ps kf wr (k + 1) = trK bs ps kf wr k ++ (bif decide ((wgB bs ps (lAt (trL bs ps kf 8) k) : Int) ≤ wr) then [lAt (trL bs ps kf 8) k] else []) := by
  unfold trK
  rw [lAt_take hk, List.filter_append]
  cases e : decide ((wgB bs ps (lAt (trL bs ps kf 8) k) : Int) ≤ wr) <;> simp [e]
theorem trK_len : (trK bs ps kf wr k).length ≤ k := by
  unfold trK
  exact Nat.le_trans (List.length_filter_le _ _) (by rw [List.length_take]; omega)
theorem trK_all (hw : wr ≤ 8) : trK bs ps kf wr (trL bs ps kf 8).length = trL bs ps kf wr := by
  unfold trK
  rw [List.take_length]
  unfold trL
  rw [List.filter_filter]
  refine List.filter_congr fun l _ => ?_
  unfold okB
  rw [Bool.eq_iff_iff]
  simp only [Bool.and_eq_true, decide_eq_true_eq]
  constructor
  · rintro ⟨a, b, -⟩; exact ⟨b, a⟩
  · rintro ⟨a, b⟩; exact ⟨b, a, by omega⟩
theorem trL_le (hb : bs.length ≤ 4) (hp : ps.length ≤ 5) : (trL bs ps kf wr).length ≤ 1024 := by
  unfold trL
  refine Nat.le_trans (List.length_filter_le _ _) (Nat.le_trans (allL_le hb _) ?_)
  exact Nat.le_trans (Nat.pow_le_pow_right (by omega) hp) (by decide)
end

end Go.Proofs.Ytdhlnlmhdacblaa
