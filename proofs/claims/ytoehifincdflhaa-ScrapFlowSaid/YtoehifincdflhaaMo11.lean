/- Wider spans (layer 11), in plain Lean: nothing is narrower. -/
import Derived.Test.YtoehifincdflhaaTm11
namespace Go.Proofs.Ytoehifincdflhaa
open Go.RowKit
open Go.Sort (grow)
set_option linter.unusedVariables false

structure Wider (l m : List Pp) : Prop where
  len : l.length = m.length
  fr : ∀ k, (ppAt l k).fr = (ppAt m k).fr
  to : ∀ k, (ppAt l k).to = (ppAt m k).to
  lo : ∀ k, (ppAt m k).lo ≤ (ppAt l k).lo
  hi : ∀ k, (ppAt l k).hi ≤ (ppAt m k).hi
theorem Wider.can {l m : List Pp} (h : Wider l m) (hl : NodesOk l) (hm : NodesOk m) (hc : Can l) : Can m := by
  rw [← canL_iff hm, ← h.len]
  exact canL_mono h.fr h.to h.lo h.hi ((canL_iff hl).2 hc)
theorem Wider.with_ {l m : List Pp} (h : Wider l m) {i : Nat} (hi : i < l.length) {a b a' b' : Int} (h1 : a' ≤ a) (h2 : b ≤ b') : Wider (withPp l i a b) (withPp m i a' b') := by
  have hm : i < m.length := by rw [← h.len]; exact hi
  refine ⟨by rw [withPp_length, withPp_length, h.len], fun k => ?_, fun k => ?_, fun k => ?_, fun k => ?_⟩ <;> rw [withPp_at _ _ _ _ _ hi, withPp_at _ _ _ _ _ hm] <;> split <;> first | exact h.fr _ | exact h.to _ | exact h.lo _ | exact h.hi _ | exact h1 | exact h2
theorem ends_wider {l m : List Pp} (h : Wider l m) (nl : NodesOk l) (nm : NodesOk m) (ll : LoHi l) (lm : LoHi m) (hc : Can l) {i : Nat} (hi : i < l.length) : (endsP m.length m i).lo ≤ (endsP l.length l i).lo ∧ (endsP l.length l i).hi ≤ (endsP m.length m i).hi := by
  have hm : i < m.length := by rw [← h.len]; exact hi
  have hcm := h.can nl nm hc
  have L := endsP_low hi nl ll hc
  have H := endsP_high hi nl ll hc
  have L' := endsP_low hm nm lm hcm
  have H' := endsP_high hm nm lm hcm
  have h1 := h.lo i
  have h2 := h.hi i
  exact ⟨L'.least _ (Int.le_trans h1 L.lo) ((h.with_ hi h1 (Int.le_refl _)).can (withPp_nodes hi nl) (withPp_nodes hm nm) L.can),
    H'.most _ (Int.le_trans H.hi h2) ((h.with_ hi (Int.le_refl _) h2).can (withPp_nodes hi nl) (withPp_nodes hm nm) H.can)⟩
/-- a book whose spans are wider -/
structure BkWider (np nl : Nat) (pl pl' : List Sp) (ls ls' : List Ln) : Prop where
  fr : ∀ i, i < nl → (lnAt ls i).fr = (lnAt ls' i).fr
  to : ∀ i, i < nl → (lnAt ls i).to = (lnAt ls' i).to
  wl : ∀ i, i < nl → (lnAt ls' i).w.lo ≤ (lnAt ls i).w.lo
  wh : ∀ i, i < nl → (lnAt ls i).w.hi ≤ (lnAt ls' i).w.hi
  sl : ∀ i, i < nl → (lnAt ls' i).s.lo ≤ (lnAt ls i).s.lo
  sh : ∀ i, i < nl → (lnAt ls i).s.hi = (lnAt ls' i).s.hi
  ql : ∀ j, j < np → (spAt pl' j).lo ≤ (spAt pl j).lo
  qh : ∀ j, j < np → (spAt pl j).hi ≤ (spAt pl' j).hi
theorem BkWider.refl (np nl : Nat) (pl : List Sp) (ls : List Ln) : BkWider np nl pl pl ls ls := ⟨fun _ _ => rfl, fun _ _ => rfl, fun _ _ => Int.le_refl _, fun _ _ => Int.le_refl _, fun _ _ => Int.le_refl _, fun _ _ => rfl, fun _ _ => Int.le_refl _, fun _ _ => Int.le_refl _⟩
section
variable {np nl : Nat} {pl pl' : List Sp} {ls ls' : List Ln} {wrg wrg' : Int}
theorem flow_wider {f g : Nat → Bool} (h : BkWider np nl pl pl' ls ls') (ho : OkBk np nl pl ls) (ho' : OkBk np nl pl' ls') (hfg : ∀ i, i < nl → f i = true → g i = true) : Wider (flowL np nl pl ls f) (flowL np nl pl' ls' g) := by
  have key : ∀ k, (ppAt (flowL np nl pl ls f) k).fr = (ppAt (flowL np nl pl' ls' g) k).fr ∧ (ppAt (flowL np nl pl ls f) k).to = (ppAt (flowL np nl pl' ls' g) k).to ∧ (ppAt (flowL np nl pl' ls' g) k).lo ≤ (ppAt (flowL np nl pl ls f) k).lo ∧ (ppAt (flowL np nl pl ls f) k).hi ≤ (ppAt (flowL np nl pl' ls' g) k).hi := by
    intro k
    by_cases h1 : k < 2 * nl
    · obtain ⟨i, rfl | rfl⟩ : ∃ i, k = 2 * i ∨ k = 2 * i + 1 := ⟨k / 2, by omega⟩
      · have hi : i < nl := by omega
        rw [pp_w hi, pp_w hi]
        have a := ho.ln i
        have b := ho'.ln i
        have c1 := h.wl i hi
        have c2 := h.wh i hi
        have c3 := h.sh i hi
        have c4 := hfg i hi
        refine ⟨by simp only [wPp, h.fr i hi], by simp only [wPp, h.to i hi], ?_, ?_⟩
        · cases e1 : f i <;> cases e2 : g i <;> simp [wPp, e1, e2] at c4 ⊢ <;> omega
        · cases e1 : f i <;> cases e2 : g i <;> simp [wPp, e1, e2] at c4 ⊢ <;> omega
      · have hi : i < nl := by omega
        rw [pp_s hi, pp_s hi]
        exact ⟨by simp only [sPp, h.to i hi], rfl, h.sl i hi, by simp only [sPp, h.sh i hi]; exact Int.le_refl _⟩
    · by_cases h2 : k < 2 * nl + np
      · obtain ⟨j, rfl⟩ : ∃ j, k = 2 * nl + j := ⟨k - 2 * nl, by omega⟩
        have hj : j < np := by omega
        rw [pp_p hj, pp_p hj]
        exact ⟨rfl, rfl, h.ql j hj, h.qh j hj⟩
      · by_cases h3 : k = 2 * nl + np
        · subst h3
          rw [pp_h, pp_h]
          exact ⟨rfl, rfl, Int.le_refl _, Int.le_refl _⟩
        · have e1 : ∀ l : List Pp, l.length = 2 * nl + np + 1 → ppAt l k = ⟨0, 0, 0, 0⟩ := fun l hl => by
            unfold ppAt; rw [List.getD_eq_getElem?_getD, List.getElem?_eq_none (by omega)]; rfl
          rw [e1 _ (flow_len _ _ _ _ _), e1 _ (flow_len _ _ _ _ _)]
          exact ⟨rfl, rfl, Int.le_refl _, Int.le_refl _⟩
  exact ⟨by rw [flow_len, flow_len], fun k => (key k).1, fun k => (key k).2.1, fun k => (key k).2.2.1, fun k => (key k).2.2.2⟩
theorem mem_sets {m s : Nat} (hl : nl ≤ 8) (ho : OkBk np nl pl ls) (h : s ∈ netSets np nl pl ls (m : Int)) : s < 2 ^ nl ∧ cntF nl s.testBit = m ∧ Can (flowL np nl pl ls s.testBit) := by
  unfold netSets at h
  rw [List.mem_filter] at h
  have hs : s < 2 ^ nl := by simpa using h.1
  have h2 := h.2
  simp only [sel, Bool.and_eq_true, beq_iff_eq] at h2
  have h1 := canL_iff (l := flowL np nl pl ls s.testBit) (flow_nodes ho)
  rw [flow_len] at h1
  rw [cnt8 hl hs] at h2
  exact ⟨hs, by omega, h1.1 h2.2⟩
/-- from a set of the narrower book to one of more lines of the wider book -/
theorem sets_wider {m m' s : Nat} (hw : BkWider np nl pl pl' ls ls') (ho : OkBk np nl pl ls) (ho' : OkBk np nl pl' ls') (h : s ∈ netSets np nl pl ls (m : Int)) (h1 : m ≤ m') (h2 : m' ≤ nl) :
    ∃ s', s' ∈ netSets np nl pl' ls' (m' : Int) ∧ Can (flowL np nl pl ls s.testBit) ∧ Wider (flowL np nl pl ls s.testBit) (flowL np nl pl' ls' s'.testBit) := by
  have hl := ho.hl
  obtain ⟨hs, hc, hcan⟩ := mem_sets hl ho h
  obtain ⟨g, g1, g2⟩ := more_set nl s.testBit m' (by omega) h2
  have hb : ∀ i, i < nl → (ofB nl g).testBit i = g i := fun i hi => by rw [ofB_bit]; simp [hi]
  have hW := flow_wider hw ho ho' (f := s.testBit) (g := (ofB nl g).testBit) (fun i hi e => by rw [hb i hi]; exact g1 i hi e)
  exact ⟨ofB nl g, mem_netSets hl (ofB_lt nl g) (by rw [cntF_congr hb]; exact g2) ho' (hW.can (flow_nodes ho) (flow_nodes ho') hcan), hcan, hW⟩
theorem fewL_spec {k : Nat} (h : fewL np nl pl ls = some k) : k ≤ nl ∧ netSets np nl pl ls (k : Int) ≠ [] := by
  unfold fewL at h
  have h1 := List.mem_of_find?_eq_some h
  have h2 := List.find?_some h
  refine ⟨by simp at h1; omega, fun e => ?_⟩
  rw [e] at h2
  simp at h2
/-- there is a truth just if Fewest is at most Wrong -/
theorem ask_few (ho : OkBk np nl pl ls) (hck : ckBk np nl pl ls wrg = true) (h0 : 0 ≤ wrg) : askZ np nl pl ls wrg true = 0 ↔ ∃ k : Nat, fewL np nl pl ls = some k ∧ (k : Int) ≤ wrg := by
  obtain ⟨m, hm⟩ : ∃ m : Nat, min wrg (nl : Int) = m := ⟨(min wrg (nl : Int)).toNat, by omega⟩
  have e : askZ np nl pl ls wrg true = 0 ↔ netSets np nl pl ls (m : Int) ≠ [] := by
    unfold askZ truthSets
    rw [hck, hm]
    cases netSets np nl pl ls (m : Int) <;> simp
  rw [e]
  constructor
  · intro h
    obtain ⟨j, h1, h2⟩ := fewL_le (by omega) h
    exact ⟨j, h1, by omega⟩
  · rintro ⟨k, h1, h2⟩ he
    obtain ⟨h3, h4⟩ := fewL_spec h1
    obtain ⟨s, hs⟩ := List.exists_mem_of_ne_nil _ h4
    obtain ⟨s', hs', -⟩ := sets_wider (BkWider.refl np nl pl ls) ho ho hs (m' := m) (by omega) (by omega)
    rw [he] at hs'
    simp at hs'
theorem ask_03 (hck : ckBk np nl pl ls wrg = true) : askZ np nl pl ls wrg true = 0 ∨ askZ np nl pl ls wrg true = 3 := by
  unfold askZ; rw [hck]; cases (truthSets np nl pl ls wrg).isEmpty <;> simp
theorem hull_low {l : List Sp} {c : Int} (hne : l ≠ []) (h : ∀ x ∈ l, c ≤ x.lo) : c ≤ (hull l).lo := by
  have key : ∀ (ys : List Sp) (o : Sp), c ≤ o.lo → (∀ x ∈ ys, c ≤ x.lo) → c ≤ (ys.foldl joinSp o).lo := by
    intro ys
    induction ys with
    | nil => intro o h _; exact h
    | cons z zs ih =>
      intro o ho hz
      exact ih (joinSp o z) (by simp only [joinSp]; have := hz z (by simp); omega) (fun x hx => hz x (by simp [hx]))
  cases l with
  | nil => exact absurd rfl hne
  | cons y ys => exact key ys y (h y (by simp)) (fun x hx => h x (by simp [hx]))
theorem hull_high {l : List Sp} {c : Int} (hne : l ≠ []) (h : ∀ x ∈ l, x.hi ≤ c) : (hull l).hi ≤ c := by
  have key : ∀ (ys : List Sp) (o : Sp), o.hi ≤ c → (∀ x ∈ ys, x.hi ≤ c) → (ys.foldl joinSp o).hi ≤ c := by
    intro ys
    induction ys with
    | nil => intro o h _; exact h
    | cons z zs ih =>
      intro o ho hz
      exact ih (joinSp o z) (by simp only [joinSp]; have := hz z (by simp); omega) (fun x hx => hz x (by simp [hx]))
  cases l with
  | nil => exact absurd rfl hne
  | cons y ys => exact key ys y (h y (by simp)) (fun x hx => h x (by simp [hx]))
/-- no answer is narrower -/
theorem ends_more (hw : BkWider np nl pl pl' ls ls') (ho : OkBk np nl pl ls) (ho' : OkBk np nl pl' ls') (h0 : 0 ≤ wrg) (hww : wrg ≤ wrg') (hne : truthSets np nl pl ls wrg ≠ []) {i : Nat} (hi : i < 2 * nl + np + 1) :
    insd (endsB np nl pl ls wrg i) (endsB np nl pl' ls' wrg' i) = true := by
  obtain ⟨m, hm⟩ : ∃ m : Nat, min wrg (nl : Int) = m := ⟨(min wrg (nl : Int)).toNat, by omega⟩
  obtain ⟨m', hm'⟩ : ∃ m : Nat, min wrg' (nl : Int) = m := ⟨(min wrg' (nl : Int)).toNat, by omega⟩
  have each : ∀ s ∈ truthSets np nl pl ls wrg, (endsB np nl pl' ls' wrg' i).lo ≤ (endsS np nl pl ls i s).lo ∧ (endsS np nl pl ls i s).hi ≤ (endsB np nl pl' ls' wrg' i).hi ∧ (endsS np nl pl ls i s).lo ≤ (endsS np nl pl ls i s).hi := by
    intro s hs
    have hs1 : s ∈ netSets np nl pl ls (m : Int) := by rw [← hm]; exact hs
    obtain ⟨s', hs', hcan, hW⟩ := sets_wider hw ho ho' hs1 (m' := m') (by omega) (by omega)
    have hs2 : s' ∈ truthSets np nl pl' ls' wrg' := by unfold truthSets; rw [hm']; exact hs'
    have e := ends_wider hW (flow_nodes ho) (flow_nodes ho') (flow_lohi ho) (flow_lohi ho') hcan (i := i) (by rw [flow_len]; exact hi)
    have a := endsP_low (l := flowL np nl pl ls s.testBit) (i := i) (by rw [flow_len]; exact hi) (flow_nodes ho) (flow_lohi ho) hcan
    have b := endsP_high (l := flowL np nl pl ls s.testBit) (i := i) (by rw [flow_len]; exact hi) (flow_nodes ho) (flow_lohi ho) hcan
    have c := low_le_high (by rw [flow_len]; exact hi) (flow_lohi ho) hcan a b
    rw [flow_len] at e c
    rw [flow_len] at e
    have h := hull_mem (l := (truthSets np nl pl' ls' wrg').map (endsS np nl pl' ls' i)) (x := endsS np nl pl' ls' i s') (List.mem_map.2 ⟨s', hs2, rfl⟩)
    exact ⟨Int.le_trans h.1 e.1, Int.le_trans e.2 h.2, c⟩
  have hne' : (truthSets np nl pl ls wrg).map (endsS np nl pl ls i) ≠ [] := by simpa using hne
  have l1 : (endsB np nl pl' ls' wrg' i).lo ≤ (endsB np nl pl ls wrg i).lo := hull_low hne' fun x hx => by
    obtain ⟨s, hs, rfl⟩ := List.mem_map.1 hx
    exact (each s hs).1
  have l2 : (endsB np nl pl ls wrg i).hi ≤ (endsB np nl pl' ls' wrg' i).hi := hull_high hne' fun x hx => by
    obtain ⟨s, hs, rfl⟩ := List.mem_map.1 hx
    exact (each s hs).2.1
  obtain ⟨s, hs⟩ := List.exists_mem_of_ne_nil _ hne
  have l3 : (endsB np nl pl ls wrg i).lo ≤ (endsB np nl pl ls wrg i).hi := by
    have h := hull_mem (l := (truthSets np nl pl ls wrg).map (endsS np nl pl ls i)) (x := endsS np nl pl ls i s) (List.mem_map.2 ⟨s, hs, rfl⟩)
    have := (each s hs).2.2
    unfold endsB
    omega
  simp only [insd, Bool.and_eq_true, decide_eq_true_eq]
  exact ⟨l1, l3, l2⟩
end

end Go.Proofs.Ytoehifincdflhaa
