/- A region that draws its order, under a condition on the world that holds until its last operation, which waits for all others. -/
import Derived.Test.YtcbeiadimchknaaGreatQp03
import Derived.Test.YtcbeiadimchknaaGreatQp04
import Derived.OrdersHeld
import Derived.Deep.RegionHeld
import Derived.Deep.RegionLaw
namespace Go.Proofs.YtcbeiadimchknaaGreat
open Go.RowKit
open Go.Sort (grow)
set_option linter.unusedVariables false
set_option linter.unusedSimpArgs false

theorem getD_dd {listed : Array Bool} {i : Nat} (hi : i < listed.size) (d d' : Bool) : listed.getD i d = listed.getD i d' := by
  simp only [Array.getD_eq_getD_getElem?, Array.getElem?_eq_getElem hi, Option.getD_some]
section
variable {P : Program} {ops : Array Oper} {Q : Exit → Act → World → Prop} {S : World → Prop} {m : Nat}
/-- whatever order is picked from here on; S holds behind every operation but m -/
def wpAnyL (P : Program) (ops : Array Oper) (Q : Exit → Act → World → Prop) (S : World → Prop) (m : Nat) : Nat → Array Bool → Act → World → Prop
  | 0, listed, a, w => Region.ready .any ops listed = [] ∧ Q .normal a w
  | fuel + 1, listed, a, w =>
    (Region.ready .any ops listed = [] → Q .normal a w) ∧
    ∀ i ∈ Region.ready .any ops listed, wpOp P ops Q i (fun a' w' => (i ≠ m → S w') ∧ wpAnyL P ops Q S m fuel (listed.setIfInBounds i true) a' w') a w
theorem wpAny_of_L : ∀ (fuel : Nat) (listed : Array Bool) (a : Act) (w : World), wpAnyL P ops Q S m fuel listed a w → wpAny P .any ops Q fuel listed a w
  | 0, _, _, _, h => h
  | fuel + 1, _, _, _, h => ⟨h.1, fun i hi => wpOp_mono (fun a' w' h' => wpAny_of_L fuel _ a' w' h'.2) (h.2 i hi)⟩
/-- an operation that reads is taken first -/
theorem wpAnyL_first {i : Nat} {oi : Oper} {v : Value} (hi : ops[i]? = some oi) (hsel : ∀ (j : Nat) (o : Oper) cs b, ops[j]? = some o → o.op ≠ .select cs b)
    (hm : ∀ o, ops[m]? = some o → ∃ e ∈ o.after, Region.binds .any e = true ∧ e.on = i) (hQ : ∀ c a w, Q (.panic c) (a.put oi.dst v) w → Q (.panic c) a w) :
    ∀ (fuel : Nat) (listed : Array Bool) (a : Act) (w : World), (∀ j oj, ops[j]? = some oj → j ≠ i → listed.getD j true = false → (∀ e ∈ oj.after, Region.binds .any e = true → e.on ≠ i) → oi.apart ops oj = true) →
      i ∈ Region.ready .any ops listed → YieldsIf P ops S oi v a → S w → wpAnyL P ops Q S m fuel (listed.setIfInBounds i true) (a.put oi.dst v) w → wpAnyL P ops Q S m (fuel + 1) listed a w := by
  intro fuel
  induction fuel with
  | zero =>
    intro listed a w _ hr hy hS H
    refine ⟨fun h => (by rw [h] at hr; cases hr), fun j hj => ?_⟩
    by_cases hji : j = i
    · subst hji; exact hy.wpOp hi hS ⟨fun _ => hS, H⟩
    · have := ready_mono hj hji
      rw [H.1] at this
      cases this
  | succ fuel ih =>
    intro listed a w hfree hr hy hS H
    refine ⟨fun h => (by rw [h] at hr; cases hr), fun j hj => ?_⟩
    by_cases hji : j = i
    · subst hji; exact hy.wpOp hi hS ⟨fun _ => hS, H⟩
    · have h1 := H.2 j (ready_mono hj hji)
      obtain ⟨hjun, oj, hoj, hall⟩ := mem_ready.1 hj
      have hun : ∀ e ∈ oj.after, Region.binds .any e = true → e.on ≠ i := fun e he hb heq => by
        have k1 := hall e he hb
        have k0 := (mem_ready.1 hr).1
        rw [heq] at k1
        rcases Nat.lt_or_ge i listed.size with h' | h'
        · rw [getD_dd h' false true, k0] at k1; cases k1
        · rw [Array.getD_eq_getD_getElem?, Array.getElem?_eq_none h'] at k1; cases k1
      have hjm : j ≠ m := fun e => by
        subst e
        obtain ⟨e, he, hb, heq⟩ := hm oj hoj
        exact hun e he hb heq
      have h2 := wpOp_putIf hoj (hfree j oj hoj hji hjun hun) (fun cs b => hsel i oi cs b hi) (fun cs b => hsel j oj cs b hoj) hQ hy h1
      refine wpOp_mono (fun a' w' h3 => ⟨fun _ => h3.2.1 hjm, ih _ a' w' (fun k ok hk hki hu hno => ?_) (ready_mono hr (Ne.symm hji)) h3.1 (h3.2.1 hjm) ?_⟩) h2
      · refine hfree k ok hk hki ?_ hno
        by_cases hjk : j = k
        · subst hjk; exact hjun
        · rw [getD_set_ne true hjk] at hu; exact hu
      · rw [Array.setIfInBounds_comm _ _ hji]
        exact h3.2.2
def waitsFor (ops : Array Oper) (m i : Nat) : Bool := ((ops[m]?).map fun o => o.after.any fun e => Region.binds .any e && decide (e.on = i)).getD true
theorem wpAnyL_take {i : Nat} {oi : Oper} {v : Value} {fuel : Nat} {listed : Array Bool} {a : Act} {w : World} (hi : ops[i]? = some oi) (hs : Region.noSelect ops = true) (hf : Region.free .any ops listed i = true)
    (hr : (Region.ready .any ops listed).contains i = true) (hm : waitsFor ops m i = true) (hQ : ∀ c a w, Q (.panic c) (a.put oi.dst v) w → Q (.panic c) a w) (hS : S w) (hy : YieldsIf P ops S oi v a)
    (h : wpAnyL P ops Q S m fuel (listed.setIfInBounds i true) (a.put oi.dst v) w) : wpAnyL P ops Q S m (fuel + 1) listed a w := by
  refine wpAnyL_first hi (Region.noSelect_spec hs) (fun o ho => ?_) hQ fuel listed a w (Region.free_spec hi hf) (by simpa using hr) hy hS h
  unfold waitsFor at hm
  rw [ho] at hm
  simp only [Option.map_some, Option.getD_some, Array.any_eq_true] at hm
  obtain ⟨k, hk, hx⟩ := hm
  simp only [Bool.and_eq_true, decide_eq_true_eq] at hx
  exact ⟨_, Array.getElem_mem hk, hx.1, hx.2⟩
/-- the only one that may come up -/
theorem wpAnyL_one {i : Nat} {o : Oper} {fuel : Nat} {listed : Array Bool} {a : Act} {w : World} (hr : Region.ready .any ops listed = [i]) (ho : ops[i]? = some o)
    (h : ∀ K : Act → World → Prop, Shut (∀ a' w', (i ≠ m → S w') → ((i ≠ m → S w') → wpAnyL P ops Q S m fuel (listed.setIfInBounds i true) a' w') → K a' w') → if Region.wanted o (yielded ops a.tmps) = true then Oper.wp P o a w K Q else K (a.put o.dst undef) w) :
    wpAnyL P ops Q S m (fuel + 1) listed a w := by
  refine ⟨fun h0 => (by rw [hr] at h0; cases h0), fun j hj => ?_⟩
  rw [hr] at hj
  obtain rfl : j = i := by simpa using hj
  exact wpOp_step ho fun K' hK => h K' fun a' w' h1 h2 => hK a' w' ⟨h1, h2 h1⟩
theorem wpAnyL_done {listed : Array Bool} {a : Act} {w : World} (hr : Region.ready .any ops listed = []) (h : Q .normal a w) : ∀ fuel, wpAnyL P ops Q S m fuel listed a w
  | 0 => ⟨hr, h⟩
  | _ + 1 => ⟨fun _ => h, by rw [hr]; simp⟩
theorem wp_region_L {id : Nat} {a : Act} {w : World} (hm : P.follows .mixedOrders = true) (S : World → Prop) (m : Nat) (h : wpAnyL P ops Q S m ops.size (Array.replicate ops.size false) a w.drew) : (Code.region id ops true).wp P Q a w :=
  wp_region_any hm (wpAny_of_L _ _ _ _ h)
end

section
variable {P : Program} {ops : Array Oper} {Q : Exit → Act → World → Prop} {S : World → Prop} {m : Nat}
/-- two may come up -/
theorem wpAnyL_two {i j : Nat} {o1 o2 : Oper} {fuel : Nat} {listed : Array Bool} {a : Act} {w : World} (hr : Region.ready .any ops listed = [i, j]) (ho1 : ops[i]? = some o1) (ho2 : ops[j]? = some o2)
    (h1 : ∀ K : Act → World → Prop, Shut (∀ a' w', (i ≠ m → S w') → ((i ≠ m → S w') → wpAnyL P ops Q S m fuel (listed.setIfInBounds i true) a' w') → K a' w') → if Region.wanted o1 (yielded ops a.tmps) = true then Oper.wp P o1 a w K Q else K (a.put o1.dst undef) w)
    (h2 : ∀ K : Act → World → Prop, Shut (∀ a' w', (j ≠ m → S w') → ((j ≠ m → S w') → wpAnyL P ops Q S m fuel (listed.setIfInBounds j true) a' w') → K a' w') → if Region.wanted o2 (yielded ops a.tmps) = true then Oper.wp P o2 a w K Q else K (a.put o2.dst undef) w) :
    wpAnyL P ops Q S m (fuel + 1) listed a w := by
  refine ⟨fun h0 => (by rw [hr] at h0; cases h0), fun k hk => ?_⟩
  rw [hr] at hk
  rcases List.mem_cons.1 hk with rfl | hk
  · exact wpOp_step ho1 fun K' hK => h1 K' fun a' w' h1 h2 => hK a' w' ⟨h1, h2 h1⟩
  · obtain rfl : k = j := by simpa using hk
    exact wpOp_step ho2 fun K' hK => h2 K' fun a' w' h1 h2 => hK a' w' ⟨h1, h2 h1⟩
end
theorem hAt_ge {hs hs' : List Hd} {k : Nat} : hAt (hs ++ hs') (hs.length + k) = hAt hs' k := by
  unfold hAt; rw [List.getD_eq_getElem?_getD, List.getD_eq_getElem?_getD, List.getElem?_append_right (by omega)]; congr 2; omega
theorem xAt_ge {hs hs' : List (List Int)} {k : Nat} : xAt (hs ++ hs') (hs.length + k) = xAt hs' k := by
  unfold xAt; rw [List.getD_eq_getElem?_getD, List.getD_eq_getElem?_getD, List.getElem?_append_right (by omega)]; congr 2; omega
theorem hAt_lo {hs hs' : List Hd} {k : Nat} (h : k < hs.length) : hAt (hs ++ hs') k = hAt hs k := by
  unfold hAt; rw [List.getD_eq_getElem?_getD, List.getD_eq_getElem?_getD, List.getElem?_append_left h]
theorem xAt_lo {hs hs' : List (List Int)} {k : Nat} (h : k < hs.length) : xAt (hs ++ hs') k = xAt hs k := by
  unfold xAt; rw [List.getD_eq_getElem?_getD, List.getD_eq_getElem?_getD, List.getElem?_append_left h]
/-- others appended -/
theorem OwnSs.app {base : Nat} {e : TypeId} {w w' : World} {v v' : Value} {n m : Nat} {hs hs' : List Hd} {xss xss' : List (List Int)} (h : OwnSs base e w v n hs xss) (hl : hs'.length = m) (xl : xss'.length = m)
    (hin : ∀ k, k < m → IntsAt w (hAt hs' k).A (hAt hs' k).n (xAt xss' k)) (hne : ∀ k, k < m → ∀ a, (hAt hs' k).A = some a → v.ownBlock ≠ some a.block ∧ a.block < w.heap.size)
    (ho : w'.ownsRow base e 1 v' (n + m) ((hs ++ hs').flatMap encH)) (hg : w.grownBy w' v.ownBlock) (ha : v'.ownBlock = v.ownBlock ∨ v'.ownBlock = some w.heap.size) : OwnSs base e w' v' (n + m) (hs ++ hs') (xss ++ xss') := by
  have hsz := hg.size
  have one : ∀ (y : Hd) (ys : List Int), IntsAt w y.A y.n ys → (∀ a, y.A = some a → v.ownBlock ≠ some a.block ∧ a.block < w.heap.size) → IntsAt w' y.A y.n ys ∧ ∀ a, y.A = some a → v'.ownBlock ≠ some a.block ∧ a.block < w'.heap.size := by
    intro y ys h1 h2
    refine ⟨IntsAt.grown h1 hg fun a e => (h2 a e).1, fun a e => ⟨?_, by have := (h2 a e).2; omega⟩⟩
    rcases ha with ha | ha
    · rw [ha]; exact (h2 a e).1
    · rw [ha]
      intro e'
      have h3 := (h2 a e).2
      have h4 := Option.some.inj e'
      omega
  refine ⟨ho, by simp [h.hl, hl], by simp [h.xl, xl], fun k hk => ?_⟩
  rcases Nat.lt_or_ge k n with h' | h'
  · rw [hAt_lo (by rw [h.hl]; exact h'), xAt_lo (by rw [h.xl]; exact h')]
    exact one _ _ (h.inn k h').1 (h.inn k h').2
  · obtain ⟨j, rfl⟩ := Nat.exists_eq_add_of_le h'
    have e1 := hAt_ge (hs := hs) (hs' := hs') (k := j)
    have e2 := xAt_ge (hs := xss) (hs' := xss') (k := j)
    rw [h.hl] at e1
    rw [h.xl] at e2
    rw [e1, e2]
    exact one _ _ (hin j (by omega)) (hne j (by omega))

end Go.Proofs.YtcbeiadimchknaaGreat
