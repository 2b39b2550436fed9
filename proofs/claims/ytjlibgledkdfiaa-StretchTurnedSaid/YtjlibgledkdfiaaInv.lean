/- A region that draws its order, by an invariant: what is known of the frame and the world once some of its operations have come up, in whatever order. -/
import Derived.Test.YtjlibgledkdfiaaOwn
namespace Go.Proofs.Ytjlibgledkdfiaa
open Go.RowKit
open Go.Sort (grow)
set_option linter.unusedVariables false

section
variable {P : Program} {ops : Array Oper} {Q : Exit → Act → World → Prop}
/-- every operation waits for earlier ones alone -/
def waitsBack (ops : Array Oper) : Bool := (List.range ops.size).all fun i => ((ops[i]?).map fun o => o.after.all fun e => !Region.binds .any e || decide (e.on < i)).getD true
theorem ready_all {listed : Array Bool} (hd : waitsBack ops = true) (hs : listed.size = ops.size) (hr : Region.ready .any ops listed = []) : ∀ k, listed.getD k true = true := by
  intro k
  induction k using Nat.strongRecOn with
  | _ k ih =>
    refine Classical.byContradiction fun hn => ?_
    have hk : listed.getD k true = false := by simpa using hn
    have hlt : k < ops.size := by
      refine Classical.byContradiction fun hc => ?_
      rw [Array.getD_eq_getD_getElem?, Array.getElem?_eq_none (by omega)] at hk
      simp at hk
    have hm : k ∈ Region.ready .any ops listed := by
      rw [mem_ready]
      refine ⟨hk, ops[k], Array.getElem?_eq_getElem hlt, fun e he hb => ?_⟩
      unfold waitsBack at hd
      rw [List.all_eq_true] at hd
      have h1 := hd k (by simpa using hlt)
      rw [Array.getElem?_eq_getElem hlt] at h1
      simp only [Option.map_some, Option.getD_some, Array.all_eq_true_iff_forall_mem] at h1
      have h2 := h1 e he
      rw [hb] at h2
      simp only [Bool.not_true, Bool.false_or, decide_eq_true_eq] at h2
      have h3 := ih e.on h2
      rw [Array.getD_eq_getD_getElem?, Array.getElem?_eq_getElem (show e.on < listed.size by omega)] at h3 ⊢
      simpa using h3
    rw [hr] at hm
    cases hm
def left (listed : Array Bool) (n : Nat) : Nat := (List.range n).countP fun k => !listed.getD k true
theorem left_set {listed : Array Bool} {n i : Nat} (hi : i < n) (hs : listed.size = n) (h : listed.getD i true = false) : left (listed.setIfInBounds i true) n < left listed n := by
  subst hs
  unfold left
  have e : ∀ m, m ≤ listed.size → (List.range m).countP (fun k => !(listed.setIfInBounds i true).getD k true) + (if i < m then 1 else 0) = (List.range m).countP (fun k => !listed.getD k true) := fun m => by
    induction m with
    | zero => intro _; simp
    | succ m ih =>
      intro hm
      have h1 := ih (by omega)
      rw [List.range_succ, List.countP_append, List.countP_append]
      by_cases e : m = i
      · subst e
        have e1 : (listed.setIfInBounds m true).getD m true = true := by simp [Array.getD_eq_getD_getElem?, hi]
        rw [if_neg (Nat.lt_irrefl m)] at h1
        rw [if_pos (Nat.lt_succ_self m)]
        simp only [List.countP_singleton, h, e1, Bool.not_true, Bool.not_false, Bool.false_eq_true, if_false, if_true]
        omega
      · have e1 : (listed.setIfInBounds i true).getD m true = listed.getD m true := by
          simp only [Array.getD_eq_getD_getElem?, Array.getElem?_setIfInBounds]
          rw [if_neg (Ne.symm e)]
        simp only [List.countP_singleton, e1]
        by_cases h2 : i < m
        · rw [if_pos h2] at h1
          rw [if_pos (show i < m + 1 by omega)]; omega
        · rw [if_neg h2] at h1
          rw [if_neg (show ¬ i < m + 1 by omega)]; omega
  have := e listed.size (Nat.le_refl _)
  rw [if_pos hi] at this
  omega
theorem getD_set (listed : Array Bool) (n i : Nat) (hi : i < listed.size) : (fun k => (listed.setIfInBounds i true).getD k true) = fun k => k == i || listed.getD k true := by
  funext k
  simp only [Array.getD_eq_getD_getElem?, Array.getElem?_setIfInBounds]
  by_cases e : i = k
  · subst e; simp [hi]
  · rw [if_neg e]
    have : (k == i) = false := by simpa using fun h => e h.symm
    simp [this]
theorem wpAny_inv (J : (Nat → Bool) → Act → World → Prop) (hd : waitsBack ops = true)
    (hstep : ∀ L a w i o, i < ops.size → ops[i]? = some o → L i = false → (∀ e ∈ o.after, Region.binds .any e = true → L e.on = true) → J L a w → wpOp P ops Q i (fun a' w' => J (fun k => k == i || L k) a' w') a w)
    (hdone : ∀ L a w, (∀ k, L k = true) → J L a w → Q .normal a w) :
    ∀ (fuel : Nat) (listed : Array Bool) (a : Act) (w : World), listed.size = ops.size → left listed ops.size ≤ fuel → J (fun k => listed.getD k true) a w → wpAny P .any ops Q fuel listed a w := by
  intro fuel
  induction fuel with
  | zero =>
    intro listed a w hs hl hJ
    have hr : Region.ready .any ops listed = [] := by
      cases h : Region.ready .any ops listed with
      | nil => rfl
      | cons i r =>
        obtain ⟨h1, o, h2, -⟩ := mem_ready.1 (show i ∈ Region.ready .any ops listed by rw [h]; simp)
        have hi : i < ops.size := by
          rcases Array.getElem?_eq_some_iff.1 h2 with ⟨h, -⟩
          exact h
        have := left_set hi hs h1
        omega
    exact ⟨hr, hdone _ _ _ (ready_all hd hs hr) hJ⟩
  | succ fuel ih =>
    intro listed a w hs hl hJ
    refine ⟨fun hr => hdone _ _ _ (ready_all hd hs hr) hJ, fun i hi => ?_⟩
    obtain ⟨h1, o, h2, h3⟩ := mem_ready.1 hi
    have hi' : i < ops.size := by
      rcases Array.getElem?_eq_some_iff.1 h2 with ⟨h, -⟩
      exact h
    refine wpOp_mono (fun a' w' h => ?_) (hstep (fun k => listed.getD k true) a w i o hi' h2 h1 (fun e he hb => ?_) hJ)
    · refine ih _ a' w' (by simpa using hs) (by have := left_set hi' hs h1; omega) ?_
      rw [getD_set listed ops.size i (by omega)]
      exact h
    · have h4 := h3 e he hb
      show listed.getD e.on true = true
      rw [Array.getD_eq_getD_getElem?] at h4 ⊢
      cases h5 : listed[e.on]? with
      | none => rfl
      | some b => rw [h5] at h4; exact h4
/-- THE LAW -/
theorem wp_region_inv {id : Nat} {a : Act} {w : World} (hm : P.follows .mixedOrders = true) (hd : waitsBack ops = true) (J : (Nat → Bool) → Act → World → Prop)
    (h0 : J (fun k => decide (ops.size ≤ k)) a w.drew)
    (hstep : ∀ L a w i o, i < ops.size → ops[i]? = some o → L i = false → (∀ e ∈ o.after, Region.binds .any e = true → L e.on = true) → J L a w → wpOp P ops Q i (fun a' w' => J (fun k => k == i || L k) a' w') a w)
    (hdone : ∀ L a w, (∀ k, L k = true) → J L a w → Q .normal a w) : (Code.region id ops true).wp P Q a w := by
  refine wp_region_any hm (wpAny_inv J hd hstep hdone ops.size _ a _ (by simp) ?_ ?_)
  · unfold left
    exact Nat.le_trans List.countP_le_length (by simp)
  · have e : (fun k => (Array.replicate ops.size false).getD k true) = fun k => decide (ops.size ≤ k) := by
      funext k
      simp only [Array.getD_eq_getD_getElem?, Array.getElem?_replicate]
      by_cases h : k < ops.size
      · rw [if_pos h]; simp; omega
      · rw [if_neg h]; simp; omega
    rw [e]
    exact h0
end

end Go.Proofs.Ytjlibgledkdfiaa
