/- append onto a slice that has no room: a new row; what was there stays as it was. -/
import Derived.Test.YtmopnbijfcamjaaOwn
namespace Go.Proofs.Ytmopnbijfcamjaa
open Go.RowKit
open Go.Sort (grow)
set_option linter.unusedVariables false

section
variable {P : Program} (w : World)
theorem run_append_new {α : Type} {enc : α → List Value} {d : α} (t ty e : TypeId) (size bytes : Nat) (E : ElemT P t e size bytes) (hs : ∀ x, (enc x).length = size)
    (B : Option Addr) (n cap : Nat) (xs : List α) (hS : SlAt enc size d w B n xs) (hB : B = none → n = 0 ∧ cap = 0)
    (A : Option Addr) (m c : Nat) (ys : List α) (hr : SlAt enc size d w A m ys) (hm : 0 < m) (hg : cap < n + m) (hsz : n + m ≤ 100000) :
    ∃ c' w', (Builtin.append_ #[t, t] ty #[.slice B n cap, .slice A m c]).run P w = .ok (.slice (some ⟨w.heap.size, 0, none⟩) (n + m) c') w' ∧
      w'.ownsRow w.heap.size e size (.slice (some ⟨w.heap.size, 0, none⟩) (n + m) c') (n + m) ((xs ++ ys).flatMap enc) ∧ Below w.heap.size w w' := by
  obtain ⟨i, z, hi, hz, hsize, hby, hzs⟩ := E.info
  have ht := E.ht
  subst hsize
  subst hby
  have hsm := E.small
  have hx := hS.reads hs E.pos
  have hy := hr.reads hs E.pos
  have h63 : n + m ≤ maxLen := by unfold maxLen; omega
  have hbytes : (n + m) * i.bytes ≤ 140737488355328 := by
    have : (n + m) * i.bytes ≤ 100000 * 1000 := Nat.mul_le_mul hsz hsm
    omega
  have hlen : (xs.flatMap enc ++ ys.flatMap enc).length = (n + m) * i.size := by rw [List.length_append, hx.1, hy.1, Nat.add_mul]
  have grown : ∀ (old : Nat), old < n + m →
      (w.drew.alloc (.cells ((xs.flatMap enc).toArray ++ (ys.flatMap enc).toArray ++ Builtin.zeroCells z.cells (grownCap w (n + m) old e - (n + m))) e)).ownsRow w.heap.size e i.size
        (.slice (some ⟨w.heap.size, 0, none⟩) (n + m) (grownCap w (n + m) old e)) (n + m) ((xs ++ ys).flatMap enc) ∧
      Below w.heap.size w (w.drew.alloc (.cells ((xs.flatMap enc).toArray ++ (ys.flatMap enc).toArray ++ Builtin.zeroCells z.cells (grownCap w (n + m) old e - (n + m))) e)) := by
    intro old ho
    have hge := grownCap_ge w (n + m) old e
    have hcm : grownCap w (n + m) old e ≤ maxLen := grownCap_le_maxLen w (n + m) old e h63
    rw [List.flatMap_append]
    refine ⟨⟨hlen, .inr ⟨w.heap.size, _, _, rfl, Nat.le_refl _, heap_alloc_new w.drew _, hge, hcm, ?_, ?_⟩⟩, ((Below.refl _ w).drew).alloc (Nat.le_refl _) _⟩
    · simp only [Array.size_append, List.size_toArray, size_zeroCells, hzs, hx.1, hy.1, ← Nat.add_mul]
      congr 1
      omega
    · simp only [Array.toList_append, List.append_assoc]
      rw [← List.append_assoc, ← hlen]
      exact List.take_left
  obtain ⟨a, rfl, -, hnews⟩ := hy.2 hm
  cases B with
  | none =>
    obtain ⟨rfl, rfl⟩ := hB rfl
    have hx0 : xs = [] := List.eq_nil_of_length_eq_zero hS.1
    subst hx0
    have hr' := run_append_nil (P := P) w t ty e i z ht hi hz a m c (ys.flatMap enc) hy.1 hnews hm (by omega) (by have hb := hbytes; simp only [Nat.zero_add] at hb; omega)
    have hgr := grown 0 (by omega)
    simp only [Nat.zero_add, List.nil_append, List.flatMap_nil, Array.empty_append] at hgr ⊢
    exact ⟨_, _, hr', hgr.1, hgr.2⟩
  | some b =>
    have holds : ∀ j u, (xs.flatMap enc)[j]? = some u → w.cell? (b.add j) = some u := by
      intro j u hu
      rcases Nat.eq_zero_or_pos n with rfl | hn
      · have hx0 : xs = [] := List.eq_nil_of_length_eq_zero hS.1
        subst hx0
        simp at hu
      · obtain ⟨b', e', -, hc⟩ := hx.2 hn
        cases e'
        exact hc j u hu
    have hr' := run_append_grow (P := P) w t ty e i z ht hi hz b n cap (xs.flatMap enc) hx.1 holds a m c (ys.flatMap enc) hy.1 hnews hg (by omega) (growslice_fits (by omega) hbytes)
    have hgr := grown cap (by omega)
    exact ⟨_, _, hr', hgr.1, hgr.2⟩
theorem wpList_append_N {α : Type} {enc : α → List Value} {d : α} {ops : Array Oper} {rest : List Oper} {o : Oper} {a : Act} {Q : Exit → Act → World → Prop} (hgd : o.guard = none) (s x : Operand) (t : TypeId)
    (ho : o.op = .call { callee := .builtin .append, args := #[s, x], argTypes := #[t, t] })
    (e : TypeId) (size bytes : Nat) (E : ElemT P t e size bytes) (hs : ∀ x, (enc x).length = size)
    (B : Option Addr) (n cap : Nat) (xs : List α) (hv : a.eval s = .slice B n cap) (hS : SlAt enc size d w B n xs) (hB : B = none → n = 0 ∧ cap = 0)
    (A : Option Addr) (m c : Nat) (ys : List α) (hx : a.eval x = .slice A m c) (hr : SlAt enc size d w A m ys) (hm : 0 < m) (hg : cap < n + m) (hsz : n + m ≤ 100000)
    (h : ∀ c' w', w'.ownsRow w.heap.size e size (.slice (some ⟨w.heap.size, 0, none⟩) (n + m) c') (n + m) ((xs ++ ys).flatMap enc) → Below w.heap.size w w' → wpList P ops Q rest (a.put o.dst (.slice (some ⟨w.heap.size, 0, none⟩) (n + m) c')) w') : wpList P ops Q (o :: rest) a w := by
  refine wpList_plain hgd fun K hK => ?_
  obtain ⟨c', w', hrun, h1, h2⟩ := run_append_new (P := P) w t o.type e size bytes E hs B n cap xs hS hB A m c ys hr hm hg hsz
  unfold Oper.wp execOp
  simp only [ho, resolve, invoke, builtin, Sem.run_bind, Sem.run_pure, Result.andThen_ok, List.map_toArray, List.map_cons, List.map_nil, hv, hx, hrun]
  exact hK _ _ (h c' w' h1 h2)
end

end Go.Proofs.Ytmopnbijfcamjaa
