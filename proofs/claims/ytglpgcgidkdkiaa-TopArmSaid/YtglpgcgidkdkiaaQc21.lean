/- A region that draws its order, by an invariant: what is known of the frame and the world once some of its operations have come up, in whatever order; The plain law of the measured arm (layer 3): the loads of a machine with one lever. -/
import Derived.Test.YtglpgcgidkdkiaaQc02
import Derived.Test.YtglpgcgidkdkiaaQc20
namespace Go.Proofs.Ytglpgcgidkdkiaa
open Go.RowKit
open Go.Sort (grow)
set_option linter.unusedVariables false
set_option linter.unusedSimpArgs false

section
variable {P : Program} {ops : Array Oper} {Q : Exit → Act → World → Prop}
/-- every operation waits for earlier ones alone -/
def waitsBack (ops : Array Oper) : Bool := (List.range ops.size).all fun i => ((ops[i]?).map fun o => o.after.all fun e => !Region.binds .any e || decide (e.on < i)).getD true
theorem ready_all {listed : Array Bool} (hd : waitsBack ops = true) (hs : listed.size = ops.size) (hr : Region.ready .any ops listed = []) : ∀ k, listed.getD k true = true := by
  intro k
  induction k using Nat.strongRecOn with
  | _ k ih =>
    refine Classical.byContradiction fun hn => ?_
    have hk : listed.getD k true = false := by simpa using hn
    have hlt : k < ops.size := by
      refine Classical.byContradiction fun hc => ?_
      rw [Array.getD_eq_getD_getElem?, Array.getElem?_eq_none (by omega)] at hk
      simp at hk
    have hm : k ∈ Region.ready .any ops listed := by
      rw [mem_ready]
      refine ⟨hk, ops[k], Array.getElem?_eq_getElem hlt, fun e he hb => ?_⟩
      unfold waitsBack at hd
      rw [List.all_eq_true] at hd
      have h1 := hd k (by simpa using hlt)
      rw [Array.getElem?_eq_getElem hlt] at h1
      simp only [Option.map_some, Option.getD_some, Array.all_eq_true_iff_forall_mem] at h1
      have h2 := h1 e he
      rw [hb] at h2
      simp only [Bool.not_true, Bool.false_or, decide_eq_true_eq] at h2
      have h3 := ih e.on h2
      rw [Array.getD_eq_getD_getElem?, Array.getElem?_eq_getElem (show e.on < listed.size by omega)] at h3 ⊢
      simpa using h3
    rw [hr] at hm
    cases hm
def left (listed : Array Bool) (n : Nat) : Nat := (List.range n).countP fun k => !listed.getD k true
theorem left_set {listed : Array Bool} {n i : Nat} (hi : i < n) (hs : listed.size = n) (h : listed.getD i true = false) : left (listed.setIfInBounds i true) n < left listed n := by
  subst hs
  unfold left
  have e : ∀ m, m ≤ listed.size → (List.range m).countP (fun k => !(listed.setIfInBounds i true).getD k true) + (if i < m then 1 else 0) = (List.range m).countP (fun k => !listed.getD k true) := fun m => by
    induction m with
    | zero => intro _; simp
    | succ m ih =>
      intro hm
      have h1 := ih (by omega)
      rw [List.range_succ, List.countP_append, List.countP_append]
      by_cases e : m = i
      · subst e
        have e1 : (listed.setIfInBounds m true).getD m true = true := by simp [Array.getD_eq_getD_getElem?, hi]
        rw [if_neg (Nat.lt_irrefl m)] at h1
        rw [if_pos (Nat.lt_succ_self m)]
        simp only [List.countP_singleton, h, e1, Bool.not_true, Bool.not_false, Bool.false_eq_true, if_false, if_true]
        omega
      · have e1 : (listed.setIfInBounds i true).getD m true = listed.getD m true := by
          simp only [Array.getD_eq_getD_getElem?, Array.getElem?_setIfInBounds]
          rw [if_neg (Ne.symm e)]
        simp only [List.countP_singleton, e1]
        by_cases h2 : i < m
        · rw [if_pos h2] at h1
          rw [if_pos (show i < m + 1 by omega)]; omega
        · rw [if_neg h2] at h1
          rw [if_neg (show ¬ i < m + 1 by omega)]; omega
  have := e listed.size (Nat.le_refl _)
  rw [if_pos hi] at this
  omega
theorem getD_set (listed : Array Bool) (n i : Nat) (hi : i < listed.size) : (fun k => (listed.setIfInBounds i true).getD k true) = fun k => k == i || listed.getD k true := by
  funext k
  simp only [Array.getD_eq_getD_getElem?, Array.getElem?_setIfInBounds]
  by_cases e : i = k
  · subst e; simp [hi]
  · rw [if_neg e]
    have : (k == i) = false := by simpa using fun h => e h.symm
    simp [this]
theorem wpAny_inv (J : (Nat → Bool) → Act → World → Prop) (hd : waitsBack ops = true)
    (hstep : ∀ L a w i o, i < ops.size → ops[i]? = some o → L i = false → (∀ e ∈ o.after, Region.binds .any e = true → L e.on = true) → J L a w → wpOp P ops Q i (fun a' w' => J (fun k => k == i || L k) a' w') a w)
    (hdone : ∀ L a w, (∀ k, L k = true) → J L a w → Q .normal a w) :
    ∀ (fuel : Nat) (listed : Array Bool) (a : Act) (w : World), listed.size = ops.size → left listed ops.size ≤ fuel → J (fun k => listed.getD k true) a w → wpAny P .any ops Q fuel listed a w := by
  intro fuel
  induction fuel with
  | zero =>
    intro listed a w hs hl hJ
    have hr : Region.ready .any ops listed = [] := by
      cases h : Region.ready .any ops listed with
      | nil => rfl
      | cons i r =>
        obtain ⟨h1, o, h2, -⟩ := mem_ready.1 (show i ∈ Region.ready .any ops listed by rw [h]; simp)
        have hi : i < ops.size := by
          rcases Array.getElem?_eq_some_iff.1 h2 with ⟨h, -⟩
          exact h
        have := left_set hi hs h1
        omega
    exact ⟨hr, hdone _ _ _ (ready_all hd hs hr) hJ⟩
  | succ fuel ih =>
    intro listed a w hs hl hJ
    refine ⟨fun hr => hdone _ _ _ (ready_all hd hs hr) hJ, fun i hi => ?_⟩
    obtain ⟨h1, o, h2, h3⟩ := mem_ready.1 hi
    have hi' : i < ops.size := by
      rcases Array.getElem?_eq_some_iff.1 h2 with ⟨h, -⟩
      exact h
    refine wpOp_mono (fun a' w' h => ?_) (hstep (fun k => listed.getD k true) a w i o hi' h2 h1 (fun e he hb => ?_) hJ)
    · refine ih _ a' w' (by simpa using hs) (by have := left_set hi' hs h1; omega) ?_
      rw [getD_set listed ops.size i (by omega)]
      exact h
    · have h4 := h3 e he hb
      show listed.getD e.on true = true
      rw [Array.getD_eq_getD_getElem?] at h4 ⊢
      cases h5 : listed[e.on]? with
      | none => rfl
      | some b => rw [h5] at h4; exact h4
/-- THE LAW -/
theorem wp_region_inv {id : Nat} {a : Act} {w : World} (hm : P.follows .mixedOrders = true) (hd : waitsBack ops = true) (J : (Nat → Bool) → Act → World → Prop)
    (h0 : J (fun k => decide (ops.size ≤ k)) a w.drew)
    (hstep : ∀ L a w i o, i < ops.size → ops[i]? = some o → L i = false → (∀ e ∈ o.after, Region.binds .any e = true → L e.on = true) → J L a w → wpOp P ops Q i (fun a' w' => J (fun k => k == i || L k) a' w') a w)
    (hdone : ∀ L a w, (∀ k, L k = true) → J L a w → Q .normal a w) : (Code.region id ops true).wp P Q a w := by
  refine wp_region_any hm (wpAny_inv J hd hstep hdone ops.size _ a _ (by simp) ?_ ?_)
  · unfold left
    exact Nat.le_trans List.countP_le_length (by simp)
  · have e : (fun k => (Array.replicate ops.size false).getD k true) = fun k => decide (ops.size ≤ k) := by
      funext k
      simp only [Array.getD_eq_getD_getElem?, Array.getElem?_replicate]
      by_cases h : k < ops.size
      · rw [if_pos h]; simp; omega
      · rw [if_neg h]; simp; omega
    rw [e]
    exact h0
end

end Go.Proofs.Ytglpgcgidkdkiaa

namespace Go.Proofs.Ytglpgcgidkdkiaa
open Go.RowKit
open Go.Sort (grow)
set_option linter.unusedVariables false
set_option linter.unusedSimpArgs false

theorem div_anti {n a b : Int} (hn : 0 ≤ n) (ha : 1 ≤ a) (hab : a ≤ b) : n / b ≤ n / a := by
  refine Int.le_ediv_of_mul_le (by omega) ?_
  have h1 : 0 ≤ n / b := Int.ediv_nonneg hn (by omega)
  have h2 := Int.mul_le_mul_of_nonneg_left hab h1
  have h3 := Int.ediv_mul_le n (show b ≠ 0 by omega)
  omega
theorem up_anti {n a b : Int} (hn : 0 ≤ n) (ha : 1 ≤ a) (hab : a ≤ b) : (n + b - 1) / b ≤ (n + a - 1) / a := by
  have h0 : 0 ≤ (n + a - 1) / a := Int.ediv_nonneg (by omega) (by omega)
  have h1 := up_mul (n := n) ha
  have h2 := Int.mul_le_mul_of_nonneg_left hab h0
  have h3 : (n + b - 1) / b < (n + a - 1) / a + 1 := by
    refine Int.ediv_lt_of_lt_mul (by omega) ?_
    rw [Int.add_mul]
    omega
  omega
theorem up_next {n x : Int} (hx : 1 ≤ x) : (n + x - 1) / x ≤ n / x + 1 := by
  have h1 := Int.mul_ediv_add_emod n x
  have h2 := Int.emod_lt_of_pos n (show 0 < x by omega)
  have h3 : (n + x - 1) / x < n / x + 2 := by
    refine Int.ediv_lt_of_lt_mul (by omega) ?_
    rw [Int.add_mul, Int.mul_comm (n / x) x]
    omega
  omega
section
variable {lg lo hi ab : Int}
theorem arm_mem {y : St3} (h : y ∈ trS [⟨lg, lo, hi⟩] 0 0 0 ab 0 []) : y.lk = 0 ∧ lo ≤ y.bw ∧ y.bw ≤ hi := by
  unfold trS alS at h
  obtain ⟨x, hx, rfl⟩ := List.mem_map.1 h
  obtain ⟨s, hs, rfl⟩ := List.mem_map.1 (List.mem_filter.1 hx).1
  simp only [List.length_cons, List.length_nil, stS, lvAt, List.getD_cons_zero, List.mem_flatMap, List.mem_map] at hs
  obtain ⟨n, hn, k, hk, rfl⟩ := hs
  have hn := ups_mem.1 hn
  have hk := ups_mem.1 hk
  refine ⟨by show k = 0; omega, ?_, ?_⟩
  · show lo ≤ 1 * n; omega
  · show 1 * n ≤ hi; omega
theorem arm_of {n : Int} (h : lo ≤ n ∧ n ≤ hi) : ∃ y ∈ trS [⟨lg, lo, hi⟩] 0 0 0 ab 0 [], y.lk = 0 ∧ y.bw = n := by
  refine ⟨⟨n, 0, 0, 0, 1 * n⟩, ?_, rfl, by show 1 * n = n; omega⟩
  unfold trS alS
  refine List.mem_map.2 ⟨(⟨n, 0, 0, 0, 1 * n⟩, 0), List.mem_filter.2 ⟨List.mem_map.2 ⟨⟨n, 0, 0, 0, 1 * n⟩, ?_, rfl⟩, by simp⟩, rfl⟩
  simp only [List.length_cons, List.length_nil, stS, lvAt, List.getD_cons_zero, List.mem_flatMap, List.mem_map]
  exact ⟨n, ups_mem.2 h, 0, ups_mem.2 (by omega), rfl⟩
theorem arm_ne (h : lo ≤ hi) : trS [⟨lg, lo, hi⟩] 0 0 0 ab 0 [] ≠ [] := by
  obtain ⟨y, hy, -⟩ := arm_of (lg := lg) (lo := lo) (hi := hi) (ab := ab) (n := lo) ⟨Int.le_refl _, h⟩
  exact List.ne_nil_of_mem hy
/-- the load of a machine with one lever -/
theorem arm_hull {wt : Int} (hl : 1 ≤ lo) (hlh : lo ≤ hi) (hn : 0 ≤ wt * ab) :
    (hu3 0 ab wt 0 (trS [⟨lg, lo, hi⟩] 0 0 0 ab 0 []) (trS [⟨lg, lo, hi⟩] 0 0 0 ab 0 []).length).lo = wt * ab / hi ∧ (hu3 0 ab wt 0 (trS [⟨lg, lo, hi⟩] 0 0 0 ab 0 []) (trS [⟨lg, lo, hi⟩] 0 0 0 ab 0 []).length).hi = (wt * ab + lo - 1) / lo := by
  have hp : pl3 0 0 wt 0 = wt := by unfold pl3; simp
  have hv : ∀ y ∈ trS [⟨lg, lo, hi⟩] 0 0 0 ab 0 [], ld3 0 ab wt 0 y = ⟨wt * ab / y.bw, (wt * ab + y.bw - 1) / y.bw⟩ := fun y hy => by
    unfold ld3
    rw [(arm_mem hy).1, hp]
  obtain ⟨⟨y1, m1, e1⟩, ⟨y2, m2, e2⟩⟩ := hu3_hit (wa := 0) (ab := ab) (wt := wt) (mi := 0) (Nat.le_refl _) (List.length_pos_iff.2 (arm_ne (lg := lg) (ab := ab) hlh))
  obtain ⟨a, ha, -, ea⟩ := arm_of (lg := lg) (lo := lo) (hi := hi) (ab := ab) (n := hi) ⟨hlh, Int.le_refl _⟩
  obtain ⟨b, hb, -, eb⟩ := arm_of (lg := lg) (lo := lo) (hi := hi) (ab := ab) (n := lo) ⟨Int.le_refl _, hlh⟩
  have h1 := (hu3_mem (wa := 0) (ab := ab) (wt := wt) (mi := 0) ha).1
  have h2 := (hu3_mem (wa := 0) (ab := ab) (wt := wt) (mi := 0) hb).2
  rw [hv _ ha, ea] at h1
  rw [hv _ hb, eb] at h2
  rw [hv _ m1] at e1
  rw [hv _ m2] at e2
  simp only at h1 h2 e1 e2
  obtain ⟨-, f1, f2⟩ := arm_mem m1
  obtain ⟨-, g1, g2⟩ := arm_mem m2
  have k1 := div_anti hn (show 1 ≤ y1.bw by omega) f2
  have k2 := up_anti hn hl g1
  omega
end

end Go.Proofs.Ytglpgcgidkdkiaa
