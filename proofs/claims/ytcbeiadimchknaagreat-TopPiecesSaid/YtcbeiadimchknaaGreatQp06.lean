/- 'm[k]++' on a map of one's own whose keys are structs: the entry, the store into it. -/
import Derived.Test.YtcbeiadimchknaaGreatQp01
import Derived.Maps.Own
import Derived.Maps.OwnOps
import Derived.Maps.Views
import Derived.Maps.OwnSet
import Derived.WideKeyEntry
import Derived.DeepKeys4
import Derived.Laws.EntriesVeiled
namespace Go.Proofs.YtcbeiadimchknaaGreat
open Go.RowKit Go.Maps Go.WideElems Go.ChangeShapes Go.WideShapes Go.MapKept Go.ChangeMaps
open Go.Sort (grow)
set_option linter.unusedVariables false
set_option linter.unusedSimpArgs false

section
variable {H : Type} {P : Program} {w : World} {t k e : TypeId} {R : Value → Option (DataW H × List MemPlace)} {b n : Nat} {D : DataW H}
theorem own_at_block {w' : World} (h : w.ownsMap P k R b n D) (he : w'.heap[b]? = w.heap[b]?) : w'.ownsMap P k R b n D := by
  obtain ⟨es, clock, hb, F, hs, hD⟩ := h
  exact ⟨es, clock, he.trans hb, F, hs, hD⟩
theorem own_entry (h : w.ownsMap P k R b n D) (K : WideMaps.KeyLaw P k) (ht : P.underlying t = some (.map k e)) {z : Value} (hz : ∀ u : World, (zeroValue e).run P u = .ok z u) {zd : DataW H} {zp : List MemPlace} (hzd : R z = some (zd, zp)) (hn : n < maxLen)
    {key : Value} {kl : Lit} (hkey : keyOf P k key = some kl) :
    ∃ (v0 : Value) (st : Nat) (w1 : World), (Instr.mapEntry t (.map (some b)) key).run P w = .ok (.tuple #[v0, goInt st]) w1 ∧ w1.ownsMap P k R b (n + 1) (D.put kl (D.atKey kl zd)) ∧ w.grownBy w1 (some b) ∧
      ∀ (w2 : World) (val : Value) (d : DataW H) (ps : List MemPlace), R val = some (d, ps) → w2.heap[b]? = w1.heap[b]? → ∃ w3, (Instr.entryStore t (.map (some b)) (goInt st) val).run P w2 = .ok () w3 ∧ w3.ownsMap P k R b (n + 1) (D.put kl d) ∧ w2.grownBy w3 (some b) := by
  have KK := Keyed.of_law K
  have hO := h
  obtain ⟨es, clock, hb, F, hs, hD⟩ := h
  obtain ⟨v0, st, es1, clock1, hrun, hv, hst⟩ := entry_then_store K ht hz hb F hkey
  have hmine : (Instr.mapUpdate t (.map (some b)) key v0).run P w = .ok () (setBlock w b (.map es1 clock1)) ∧ (Instr.lookup t (.map (some b)) key false).run P w = .ok v0 w := by
    rcases K.find w hkey es.toList F.keys with ⟨h1, h2⟩ | ⟨j, e0, h1, h2, h3⟩
    · have hm : (Instr.mapEntry t (.map (some b)) key).run P w = .ok (.tuple #[z, goInt clock]) (setBlock w b (.map (es.push ⟨key, z, clock⟩) (clock + 1))) := by
        simp [Instr.mapEntry, run_underlying ht, MapKept.run_getObj_map hb, K.check w false hkey, h1, hz, MapKept.run_setObj_map _ hb, Result.andThen, setBlock]
      rw [hm] at hrun
      simp only [Result.ok.injEq, Value.tuple.injEq, Array.mk.injEq, List.cons.injEq] at hrun
      obtain ⟨⟨rfl, -⟩, hw⟩ := hrun
      rw [← hw]
      exact ⟨by simp [Instr.mapUpdate, run_underlying ht, MapKept.run_getObj_map hb, K.check w false hkey, h1, MapKept.run_setObj_map _ hb, Result.andThen, setBlock], by simp [Instr.lookup, run_underlying ht, MapKept.run_getObj_map hb, K.check w _ hkey, h1, hz, Result.andThen]⟩
    · have hj : es[j]? = some e0 := by simpa using h2
      have hsame : es.modify j (fun e => { e with key := key }) = es := by
        apply Array.ext'
        rw [Array.toList_modify, modify_eq_set _ _ _ _ h2]
        have : ({ e0 with key := key } : MapEntry) = e0 := by rw [← h3]
        rw [this]
        exact set_self _ _ _ h2
      have hsame2 : es.modify j (fun e => { e with key := key, val := e0.val }) = es := by
        apply Array.ext'
        rw [Array.toList_modify, modify_eq_set _ _ _ _ h2]
        have : ({ e0 with key := key, val := e0.val } : MapEntry) = e0 := by rw [← h3]
        rw [this]
        exact set_self _ _ _ h2
      have hm : (Instr.mapEntry t (.map (some b)) key).run P w = .ok (.tuple #[e0.val, goInt e0.born]) (setBlock w b (.map es clock)) := by
        simp [Instr.mapEntry, run_underlying ht, MapKept.run_getObj_map hb, K.check w false hkey, h1, hj, h3, K.stays w hkey, hsame, MapKept.run_setObj_map _ hb, Result.andThen, setBlock]
      rw [hm] at hrun
      simp only [Result.ok.injEq, Value.tuple.injEq, Array.mk.injEq, List.cons.injEq] at hrun
      obtain ⟨⟨rfl, -⟩, hw⟩ := hrun
      rw [← hw]
      exact ⟨by simp [Instr.mapUpdate, run_underlying ht, MapKept.run_getObj_map hb, K.check w false hkey, h1, hj, h3, K.stays w hkey, hsame2, MapKept.run_setObj_map _ hb, Result.andThen, setBlock], by simp [Instr.lookup, run_underlying ht, MapKept.run_getObj_map hb, K.check w _ hkey, h1, Result.andThen]⟩
  have hRv : ∃ ps, R v0 = some (D.atKey kl zd, ps) := by
    obtain ⟨v, ps, hl, hr⟩ := hO.lookup KK ht (hz w) hzd hkey
    rw [hmine.2] at hl
    simp only [Result.ok.injEq, and_true] at hl
    subst hl
    exact ⟨ps, hr⟩
  obtain ⟨ps0, hps0⟩ := hRv
  obtain ⟨w', hu, hown, hg⟩ := hO.update KK ht hn hkey hps0
  rw [hmine.1] at hu
  simp only [Result.ok.injEq, true_and] at hu
  subst hu
  refine ⟨v0, st, _, hrun, hown, hg, fun w2 val d ps hval hw2 => ?_⟩
  have hbb : (setBlock w b (.map es1 clock1)).heap[b]? = some (.map es1 clock1) := heap_setBlock_same hb _
  obtain ⟨es', clock', hs', hu'⟩ := hst w2 val (hw2.trans hbb)
  obtain ⟨w'', hu2, hown2, -⟩ := hO.update KK ht hn hkey hval
  rw [hu'] at hu2
  simp only [Result.ok.injEq, true_and] at hu2
  subst hu2
  refine ⟨_, hs', own_at_block hown2 ?_, ⟨rfl, rfl, rfl, by simp [setBlock], fun i _ hi => heap_setBlock_other (hw2.trans hbb) _ (fun e => hi (by rw [e]))⟩⟩
  rw [heap_setBlock_same (hw2.trans hbb) _, heap_setBlock_same hb _]
end

end Go.Proofs.YtcbeiadimchknaaGreat
