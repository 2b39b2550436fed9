/- BarsOrder (layer 1): the copy is turned. -/
import Derived.Deep.DeepCutAuto
import Derived.Test.YtmopnbijfcamjaaSq6
import Derived.Test.YtmopnbijfcamjaaPtw1
import Derived.Test.YtmopnbijfcamjaaEv1
namespace Go.Proofs.Ytmopnbijfcamjaa
open Go.RowKit
open Go.Sort (grow)
set_option linter.unusedVariables false

/-- one piece stored -/
theorem OwnPs.setPc {base g c p n : Nat} {w : World} {ms : List Pm} {ps : List Pc} {x : Pm} {q : Pc} (h : OwnPs base w (.slice (some ⟨g, 0, none⟩) n c) n ms ps) (hp : p < n) (hxq : x.long = q.long) (hx : IntsAt w x.h.A x.h.n q.hs) (hne : ∀ a, x.h.A = some a → base ≤ a.block ∧ g ≠ a.block ∧ a.block < w.heap.size) :
    OwnPs base ((w.setCell ⟨g, p * 2, none⟩ (.int .i64 x.long)).setCell ⟨g, p * 2 + 1, none⟩ (.slice x.h.A x.h.n x.h.c)) (.slice (some ⟨g, 0, none⟩) n c) n (ms.set p x) (ps.set p q) := by
  have hml := h.ml
  have hpl := h.pl
  have keep : ∀ (A : Option Addr) (m : Nat) (xs : List Int), IntsAt w A m xs → (∀ a, A = some a → g ≠ a.block) → IntsAt ((w.setCell ⟨g, p * 2, none⟩ (.int .i64 x.long)).setCell ⟨g, p * 2 + 1, none⟩ (.slice x.h.A x.h.n x.h.c)) A m xs := by
    intro A m xs hi hn
    refine ⟨hi.1, fun h0 => ?_⟩
    obtain ⟨g', off, e, hg, hc⟩ := hi.2 h0
    have k1 := hn _ e
    have k2 : ∀ o o', (⟨g, o, none⟩ : Addr) ≠ ⟨g', o', none⟩ := fun o o' e' => k1 (congrArg Addr.block e')
    exact ⟨g', off, e, by simpa using hg, fun j hj i u hu => (World.cell?_setCell_other _ _ _ _ (fun e' => by first | exact k2 _ _ e' | exact k2 _ _ e'.symm)).trans ((World.cell?_setCell_other _ _ _ _ (fun e' => by first | exact k2 _ _ e' | exact k2 _ _ e'.symm)).trans (hc j hj i u hu))⟩
  refine ⟨?_, by simp [hml], by simp [hpl], fun k hk => ?_, fun k hk => ?_⟩
  · have a1 := (h.own.stored (p * 2 + 0) (.int .i64 x.long)).1
    rw [flat_set encP_len ms p 0 ⟨x.long, (pmAt ms p).h⟩ (⟨0, ⟨none, 0, 0⟩⟩ : Pm) _ (by omega) (by omega) rfl] at a1
    have a2 := (a1.stored (p * 2 + 1) (.slice x.h.A x.h.n x.h.c)).1
    rw [flat_set encP_len (ms.set p ⟨x.long, (pmAt ms p).h⟩) p 1 x (⟨0, ⟨none, 0, 0⟩⟩ : Pm) _ (by simp; omega) (by omega) (by
      have e : (ms.set p ⟨x.long, (pmAt ms p).h⟩).getD p (⟨0, ⟨none, 0, 0⟩⟩ : Pm) = ⟨x.long, (pmAt ms p).h⟩ := by
        rw [List.getD_eq_getElem?_getD, List.getElem?_set, if_pos rfl, if_pos (by omega)]; rfl
      rw [e]; rfl), List.set_set] at a2
    exact a2
  · rw [pmAt_set (by omega), pcAt_set (by omega)]
    split
    · exact hxq
    · exact h.lg k hk
  · rw [pmAt_set (by omega), pcAt_set (by omega)]
    split
    · exact ⟨keep _ _ _ hx (fun a ha => (hne a ha).2.1), fun a ha => ⟨(hne a ha).1, fun e => (hne a ha).2.1 (Option.some.inj e), by simpa using (hne a ha).2.2⟩⟩
    · obtain ⟨i1, i2⟩ := h.inn k hk
      exact ⟨keep _ _ _ i1 (fun a ha e => (i2 a ha).2.1 (by rw [e]; rfl)), fun a ha => ⟨(i2 a ha).1, (i2 a ha).2.1, by simpa using (i2 a ha).2.2⟩⟩
theorem same_ints2 (A B : Option Addr) (c d : Nat) (L : List Int) (V : World) (hl : L.length ≤ 40) (HA : IntsAt V A L.length L) (HB : IntsAt V B L.length L) :
    Calls Try.prog 42 #[.slice A L.length c, .slice B L.length d] V fun e V' => e = .returned (.bool true) ∧ Below V.heap.size V V' := by
  have := SameInts_c A B L.length L.length c d L L V hl hl HA HB
  rw [show (L.length == L.length) = true by simp, show (allN L.length fun j => iAt L j == iAt L j) = true by rw [allN_iff]; intro j _; simp] at this
  exact this
theorem heats10 {bs : List Br} {ps : List Pc} {kf wr : Int} {a : Nat} (h : ckS bs ps kf wr = true) (ha : a < ps.length) : (heatsP bs ps kf wr a).length ≤ 10 := by
  have h1 : (heatsP bs ps kf wr a).Nodup := by
    have e0 : heatsP bs ps kf wr a = srtC (htL bs (ofP bs ps kf wr a)) := rfl
    rw [e0]
    exact (srtC_asc _).imp (fun h => by omega)
  exact nodup_le _ htA h1 (fun v hv => by
    obtain ⟨l, hl, e⟩ := (heats_mem h ha).1 hv
    obtain ⟨⟨k1, k2⟩, -⟩ := trL_mem.1 hl
    have := ((ckS_vals h).2.2.2.2.1 _ (k2 _ (gN_lt (l := l) (p := a) (by omega)))).1
    exact hasI_mem.1 (htA_has (by omega) (by omega)))

end Go.Proofs.Ytmopnbijfcamjaa
