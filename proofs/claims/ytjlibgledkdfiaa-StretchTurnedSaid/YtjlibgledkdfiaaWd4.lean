/- A pull of the call's own written in place (layer 4); the wider pull of the statements. -/
import Derived.Test.YtjlibgledkdfiaaCy4
import Derived.Test.YtjlibgledkdfiaaEv4
import Derived.Test.YtjlibgledkdfiaaHl
import Derived.Shelf.Abstract
import Derived.Laws.EntriesVeiled
import Derived.Handy
import Derived.Deep.DrawnRows
import Derived.Deep.DeepCutAuto
import Derived.OrdersIn
import Derived.Deep.Quiet
import Derived.Lib.QuietBelow
import Derived.TacticsIn
import Derived.RangeFuncCalls
import Derived.BigRegionIn
import Derived.Shelf.RegionOpen
namespace Go.Proofs.Ytjlibgledkdfiaa
open Go.RowKit
open Go.Sort (grow)
set_option linter.unusedVariables false

section
variable {base : Nat} {A1 : Option Addr} {np c1 : Nat} {A2 : Option Addr} {nl c2 : Nat} {rs : List Ro4} {ds : List Re4} {w w' : World} {g : Nat}
theorem PuOwn.far (h : PuOwn base A1 np c1 A2 nl c2 rs ds w) {p : Addr} (u : Value) (hp : ∀ k, ((Value.slice A1 np c1).ownBlock = some k ∨ (Value.slice A2 nl c2).ownBlock = some k) → k ≠ p.block) : PuOwn base A1 np c1 A2 nl c2 rs ds (w.setCell p u) :=
  ⟨own_set h.hp fun k hk => hp k (.inl hk), own_set h.hl fun k hk => hp k (.inr hk), h.ne⟩
theorem PuOwn.setRod (h : PuOwn base (some ⟨g, 0, none⟩) np c1 A2 nl c2 rs ds w) (hl : rs.length = np) {k j : Nat} (hk : k < np) (hj : j < 3) (y : Ro4) (u : Value) (hy : encR4 y = (encR4 (roAt rs k)).set j u) : PuOwn base (some ⟨g, 0, none⟩) np c1 A2 nl c2 (rs.set k y) ds (w.setCell ⟨g, k * 3 + j, none⟩ u) := by
  refine ⟨?_, own_set h.hl (fun q hq e => h.ne g rfl (by rw [hq]; exact congrArg some e)), h.ne⟩
  have a1 := (h.hp.stored (k * 3 + j) u).1
  rw [flat_set encR4_len rs k j y (⟨0, 0, 0⟩ : Ro4) u (by omega) hj hy] at a1
  exact a1
theorem PuOwn.setRe (h : PuOwn base A1 np c1 (some ⟨g, 0, none⟩) nl c2 rs ds w) (hl : ds.length = nl) {k j : Nat} (hk : k < nl) (hj : j < 7) (y : Re4) (u : Value) (hy : encE4 y = (encE4 (reAt ds k)).set j u) : PuOwn base A1 np c1 (some ⟨g, 0, none⟩) nl c2 rs (ds.set k y) (w.setCell ⟨g, k * 7 + j, none⟩ u) := by
  refine ⟨own_set h.hp (fun q hq e => h.ne q hq (congrArg some e.symm)), ?_, h.ne⟩
  have a1 := (h.hl.stored (k * 7 + j) u).1
  rw [flat_set encE4_len ds k j y (⟨0, 0, 0, 0, 0, 0, 0⟩ : Re4) u (by omega) hj hy] at a1
  exact a1
theorem PuOwn.rodC (h : PuOwn base (some ⟨g, 0, none⟩) np c1 A2 nl c2 rs ds w) (hl : rs.length = np) {k : Nat} (hk : k < np) : w.cell? ⟨g, k * 3, none⟩ = some (.int .i64 (roAt rs k).lg) ∧ w.cell? ⟨g, k * 3 + 1, none⟩ = some (.int .i64 (roAt rs k).we) ∧ w.cell? ⟨g, k * 3 + 2, none⟩ = some (.int .i64 (roAt rs k).gr) ∧ (∀ i, w.frozen? ⟨g, i, none⟩ = false) ∧ g < w.heap.size :=
  ⟨(h.hp.cellAt (k * 3) (by omega)).trans (flat_get (d := (⟨0, 0, 0⟩ : Ro4)) encR4_len rs k 0 (by omega) (by omega)), (h.hp.cellAt (k * 3 + 1) (by omega)).trans (flat_get (d := (⟨0, 0, 0⟩ : Ro4)) encR4_len rs k 1 (by omega) (by omega)),
   (h.hp.cellAt (k * 3 + 2) (by omega)).trans (flat_get (d := (⟨0, 0, 0⟩ : Ro4)) encR4_len rs k 2 (by omega) (by omega)), fun i => h.hp.frozenAt i, (h.hp.lt g rfl).2⟩
theorem PuOwn.reC (h : PuOwn base A1 np c1 (some ⟨g, 0, none⟩) nl c2 rs ds w) (hl : ds.length = nl) {k : Nat} (hk : k < nl) : w.cell? ⟨g, k * 7, none⟩ = some (.int .i64 (reAt ds k).wh) ∧ w.cell? ⟨g, k * 7 + 1, none⟩ = some (.int .i64 (reAt ds k).rd) ∧ w.cell? ⟨g, k * 7 + 2, none⟩ = some (.int .i64 (reAt ds k).ct) ∧ w.cell? ⟨g, k * 7 + 3, none⟩ = some (.int .i64 (reAt ds k).rs)
      ∧ w.cell? ⟨g, k * 7 + 4, none⟩ = some (.int .i64 (reAt ds k).of) ∧ w.cell? ⟨g, k * 7 + 5, none⟩ = some (.int .i64 (reAt ds k).lo) ∧ w.cell? ⟨g, k * 7 + 6, none⟩ = some (.int .i64 (reAt ds k).hi) ∧ (∀ i, w.frozen? ⟨g, i, none⟩ = false) ∧ g < w.heap.size :=
  have c : ∀ (j : Nat) (u : Value), j < 7 → (encE4 (reAt ds k))[j]? = some u → w.cell? ⟨g, k * 7 + j, none⟩ = some u := fun j u hj hu =>
    ((h.hl.cellAt (k * 7 + j) (by omega)).trans (flat_get (d := (⟨0, 0, 0, 0, 0, 0, 0⟩ : Re4)) encE4_len ds k j hj (by omega))).trans hu
  ⟨c 0 _ (by omega) rfl, c 1 _ (by omega) rfl, c 2 _ (by omega) rfl, c 3 _ (by omega) rfl, c 4 _ (by omega) rfl, c 5 _ (by omega) rfl, c 6 _ (by omega) rfl, fun i => h.hl.frozenAt i, (h.hl.lt g rfl).2⟩
theorem PuOwn.blocks (h : PuOwn base A1 np c1 A2 nl c2 rs ds w) : ∀ k, ((Value.slice A1 np c1).ownBlock = some k ∨ (Value.slice A2 nl c2).ownBlock = some k) → base ≤ k ∧ k < w.heap.size := fun k hk => by
  rcases hk with hk | hk
  · exact h.hp.lt k hk
  · exact h.hl.lt k hk
theorem PuOwn.mono (h : PuOwn base A1 np c1 A2 nl c2 rs ds w) {base' : Nat} (hb : base' ≤ base) : PuOwn base' A1 np c1 A2 nl c2 rs ds w := ⟨own_mono h.hp hb, own_mono h.hl hb, h.ne⟩
end
theorem roAt_set {rs : List Ro4} {k i : Nat} {y : Ro4} (hk : k < rs.length) : roAt (rs.set k y) i = if i = k then y else roAt rs i := by
  unfold roAt
  rw [List.getD_eq_getElem?_getD, List.getElem?_set, List.getD_eq_getElem?_getD]
  by_cases e : i = k
  · subst e; simp [hk]
  · rw [if_neg (fun h => e h.symm), if_neg e]
theorem reAt_set {rs : List Re4} {k i : Nat} {y : Re4} (hk : k < rs.length) : reAt (rs.set k y) i = if i = k then y else reAt rs i := by
  unfold reAt
  rw [List.getD_eq_getElem?_getD, List.getElem?_set, List.getD_eq_getElem?_getD]
  by_cases e : i = k
  · subst e; simp [hk]
  · rw [if_neg (fun h => e h.symm), if_neg e]
/-- a rod that is worn more, a reading that says less -/
def wdRo (x : Ro4) (m4 : Int) : Ro4 := ⟨x.lg, x.we + m4, x.gr⟩
def wdRe (x : Re4) (m1 m2 : Int) : Re4 := ⟨x.wh, x.rd, x.ct, x.rs, x.of + m1, x.lo - m2, x.hi + m2⟩
def wdRs (rs : List Ro4) (m3 m4 : Int) : List Ro4 := if 0 ≤ m3 ∧ m3 < rs.length then rs.set m3.toNat (wdRo (roAt rs m3.toNat) m4) else rs
def wdDs (ds : List Re4) (m0 m1 m2 : Int) : List Re4 := if 0 ≤ m0 ∧ m0 < ds.length then ds.set m0.toNat (wdRe (reAt ds m0.toNat) m1 m2) else ds
def wdP (p : P4) (m0 m1 m2 m3 m4 m5 m6 : Int) : P4 := ⟨p.ir, p.glo - m6, p.ghi + m6, p.wr + m5, wdRs p.rods m3 m4, wdDs p.res m0 m1 m2⟩

end Go.Proofs.Ytjlibgledkdfiaa
