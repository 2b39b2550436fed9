/- More on slices of the call itself: set, kept, appended to an empty row. -/
import Derived.Test.YtmopnbijfcamjaaOwn
namespace Go.Proofs.Ytmopnbijfcamjaa
open Go.RowKit
open Go.Sort (grow)
set_option linter.unusedVariables false

theorem own_set {w : World} {base : Nat} {e : TypeId} {size : Nat} {v : Value} {n : Nat} {xs : List Value} (h : w.ownsRow base e size v n xs) {p : Addr} {u : Value} (hp : ∀ k, v.ownBlock = some k → k ≠ p.block) : (w.setCell p u).ownsRow base e size v n xs := by
  obtain ⟨h1, h2⟩ := h
  refine ⟨h1, ?_⟩
  rcases h2 with h2 | ⟨g, cap, cur, hv, hg, hh, r⟩
  · exact Or.inl h2
  · refine Or.inr ⟨g, cap, cur, hv, hg, ?_, r⟩
    subst hv
    exact (Below.heap_setCell w p u g (hp g rfl)).trans hh

theorem own_mono {w : World} {base base' : Nat} {e : TypeId} {size : Nat} {v : Value} {n : Nat} {xs : List Value} (h : w.ownsRow base e size v n xs) (hb : base' ≤ base) : w.ownsRow base' e size v n xs := by
  obtain ⟨h1, h2⟩ := h
  refine ⟨h1, ?_⟩
  rcases h2 with h2 | ⟨g, cap, cur, hv, hg, r⟩
  · exact Or.inl h2
  · exact Or.inr ⟨g, cap, cur, hv, Nat.le_trans hb hg, r⟩
theorem step_append_E {P : Program} (X : World) {α : Type} {enc : α → List Value} {d : α} {ops : Array Oper} {o : Oper} {a : Act} {K : Act → World → Prop} {Q : Exit → Act → World → Prop} {Z : Prop} (hgd : o.guard = none) (s x : Operand) (t : TypeId)
    (ho : o.op = .call { callee := .builtin .append, args := #[s, x], argTypes := #[t, t] })
    (B : Nat) (W : World) (e : TypeId) (size bytes : Nat) (E : ElemT P t e size bytes) (hs : ∀ x, (enc x).length = size) (h1 : ∀ x, ∀ u ∈ enc x, u.oneCell' = true)
    (g : Nat) (hv : a.eval s = .slice (some ⟨g, 0, none⟩) 0 0) (hown : X.ownsRow B e size (.slice (some ⟨g, 0, none⟩) 0 0) 0 [])
    (A : Option Addr) (m c : Nat) (ys : List α) (hx : a.eval x = .slice A m c) (hr : SlAt enc size d X A m ys)
    (hsz : m ≤ 100000) (hb : Below B W X) (hB : B ≤ W.heap.size)
    (h : ∀ A' c' w', Hid (w'.ownsRow B e size (.slice A' m c') m (ys.flatMap enc)) → X.grownBy w' (some g) → ((Value.slice A' m c').ownBlock = some g ∨ (Value.slice A' m c').ownBlock = some X.heap.size) → Below B W w' → K (a.put o.dst (.slice A' m c')) w') :
    if Region.wanted o (yielded ops a.tmps) = true then Oper.wp P o a X K Q else Z := by
  refine step_append_T X (d := d) hgd s x t ho B e size bytes E hs h1 _ (some g) 0 [] hv rfl hown A m c ys hx hr (by omega) (Nat.le_trans hB hb.size) ?_
  intro v' w' k1 k2 k3
  rw [Nat.zero_add, List.nil_append] at k1
  obtain ⟨A', c', rfl, -, -⟩ := SlAt.of_own (d := d) hs k1 hr.1
  exact h A' c' w' k1 k2 k3 (Below.grown hb k2 (Nat.le_trans hB hb.size) fun k hk => by cases hk; exact (hown.lt g rfl).1)

theorem sl_set {α : Type} {enc : α → List Value} {size : Nat} {d : α} {w : World} {n b off : Nat} {xs : List α} (h : SlAt enc size d w (some ⟨b, off, none⟩) n xs) {p : Addr} (u : Value) (hp : b ≠ p.block) : SlAt enc size d (w.setCell p u) (some ⟨b, off, none⟩) n xs := by
  refine ⟨h.1, fun hn => ?_⟩
  obtain ⟨b', off', e, hb, hc⟩ := h.2 hn
  cases e
  refine ⟨b, off, rfl, by simpa using hb, fun k hk j u' hu => ?_⟩
  rw [World.cell?_setCell_other _ _ _ _ (by intro e; subst e; exact hp rfl)]
  exact hc k hk j u' hu
theorem sl_of_own {α : Type} {enc : α → List Value} {size : Nat} {d : α} (hs : ∀ x, (enc x).length = size) {w : World} {base : Nat} {e : TypeId} {A : Option Addr} {n c : Nat} {xs : List α} (h : w.ownsRow base e size (.slice A n c) n (xs.flatMap enc)) (hl : xs.length = n) : SlAt enc size d w A n xs := by
  obtain ⟨A', c', e, -, hh⟩ := SlAt.of_own (d := d) hs h hl
  cases e
  exact hh

theorem flat_set {α : Type} {enc : α → List Value} {size : Nat} (hs : ∀ x, (enc x).length = size) (xs : List α) (k j : Nat) (y d : α) (u : Value) (hk : k < xs.length) (hj : j < size) (he : enc y = (enc (xs.getD k d)).set j u) : (xs.flatMap enc).set (k * size + j) u = (xs.set k y).flatMap enc := by
  induction xs generalizing k with
  | nil => simp at hk
  | cons x xs ih =>
    cases k with
    | zero =>
      simp only [List.flatMap_cons, List.set_cons_zero, Nat.zero_mul, Nat.zero_add]
      rw [List.set_append_left _ _ (by rw [hs]; exact hj)]
      rw [he]; rfl
    | succ k =>
      simp only [List.flatMap_cons, List.set_cons_succ]
      have e : (k + 1) * size + j = size + (k * size + j) := by rw [Nat.add_mul]; omega
      rw [e, List.set_append_right _ _ (by rw [hs]; omega), hs, Nat.add_sub_cancel_left]
      rw [ih k (by simpa using hk) (by simpa using he)]

theorem own_kept {w w' : World} {row : Option Nat} {base : Nat} {e : TypeId} {size : Nat} {v : Value} {n : Nat} {xs : List Value} (h : w.ownsRow base e size v n xs) (hg : w.grownBy w' row) (hne : ∀ k, v.ownBlock = some k → row ≠ some k) : w'.ownsRow base e size v n xs := by
  refine h.kept hg ?_
  cases e : v.ownBlock with
  | none => exact .inl rfl
  | some k => exact .inr fun h' => hne k e h'.symm

end Go.Proofs.Ytmopnbijfcamjaa
