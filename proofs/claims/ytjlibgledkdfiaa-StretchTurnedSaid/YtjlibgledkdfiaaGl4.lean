/- A look-up in a map that has not turned gives the same in whatever world; groups of lengths as a datum (layer 4). -/
import Derived.Test.YtjlibgledkdfiaaKy4
import Derived.Test.YtjlibgledkdfiaaRl
import Derived.Maps.OwnRows
namespace Go.Proofs.Ytjlibgledkdfiaa
open Go.RowKit Go.Maps Go.Sort Go.ChangeShapes
open Go.Sort (grow)
set_option linter.unusedVariables false

section
variable {P : Program} {k t e : TypeId} {w w9 : World} {b : Nat}
open Go.WideElems (Fit rg pl rd_val rd_key)
theorem look_same {H : Type} {R : Value → Option (DataW H × List MemPlace)} {es : Array MapEntry} {clock : Nat} (K : Keyed P k) (ht : P.underlying t = some (.map k e)) {z : Value} (hz : ∀ W, (zeroValue e).run P W = .ok z W) (F : Fit P k R es clock)
    (hb : w.heap[b]? = some (.map es clock)) (hb9 : w9.heap[b]? = w.heap[b]?) {key : Value} {kl : Lit} (hkey : keyOf P k key = some kl) {v : Value} (h : (Instr.lookup t (.map (some b)) key false).run P w = .ok v w) :
    (Instr.lookup t (.map (some b)) key false).run P w9 = .ok v w9 := by
  have F' : Fit P k (fun v => some ((DataW.held v : DataW Value), ([] : List MemPlace))) es clock := ⟨F.size, F.stamped, fun x hx => by
    obtain ⟨y, hy⟩ := F.reads x hx
    refine ⟨(y.1, .held x.val), ?_⟩
    unfold Go.WideElems.rd
    rw [rd_key hy]
    rfl⟩
  rcases Maps.fit_look false K ht (hz w) hb F' hkey with ⟨r1, n1, -⟩ | ⟨e0, y0, m0, k0, r1, R0, a0, -⟩
  · rcases Maps.fit_look false K ht (hz w9) (hb9.trans hb) F' hkey with ⟨r2, n2, -⟩ | ⟨e1, y1, m1, k1, r2, R1, a1, -⟩
    · rw [h] at r1
      simp only [Bool.false_eq_true, if_false, Result.ok.injEq, and_true] at r1
      rw [r1]
      simpa using r2
    · exact absurd k1 (n1 e1 m1)
  · rcases Maps.fit_look false K ht (hz w9) (hb9.trans hb) F' hkey with ⟨r2, n2, -⟩ | ⟨e1, y1, m1, k1, r2, R1, a1, -⟩
    · exact absurd k0 (n2 e0 m0)
    · have e2 := (a0 .nil).symm.trans (a1 .nil)
      cases R0
      cases R1
      simp only [DataW.held.injEq] at e2
      rw [h] at r1
      simp only [Bool.false_eq_true, if_false, Result.ok.injEq, and_true] at r1 r2
      rw [r1, e2]
      exact r2
end
/-- the elements of a slice, nil as empty -/
def items4 : DataW Unit → List (DataW Unit)
  | .slice es _ => es
  | _ => []
theorem items4_row {w : World} {base : Nat} {e : TypeId} {v : Value} {zs : List Int} (h : w.ownsInts base e .i64 v zs) : items4 (rowDatum .i64 v zs) = lits .i64 zs := by
  rcases h.datum (H := Unit) with ⟨h1, h2⟩ | h1
  · rw [h1, h2]; rfl
  · rw [h1]; rfl
theorem lits_inj {H : Type} {xs ys : List Int} (h : (lits .i64 xs : List (DataW H)) = lits .i64 ys) : xs = ys := by
  unfold lits at h
  exact (List.map_inj_right (fun a b hab => by cases hab; rfl)).1 h
/-- the datum of the groups: at n the list f n; an entry just where it is not empty -/
structure GrpD (G : DataW Unit) (f : Int → List Int) : Prop where
  mp : IsMap G
  at_ : ∀ n, items4 (G.atKey (.int .i64 n) .nil) = lits .i64 (f n)
  has_ : ∀ n, has G (.int .i64 n) = !(f n).isEmpty
theorem GrpD.made : GrpD (.map []) (fun _ => []) := ⟨isMap_empty, fun n => rfl, fun n => rfl⟩
theorem GrpD.get {G : DataW Unit} {f : Int → List Int} (h : GrpD G f) {w : World} {base : Nat} {e : TypeId} {v : Value} {zs : List Int} {n : Int} (hat : G.atKey (.int .i64 n) .nil = rowDatum .i64 v zs) (ho : w.ownsInts base e .i64 v zs) : zs = f n := by
  have h1 := h.at_ n
  rw [hat, items4_row ho] at h1
  exact lits_inj h1
theorem GrpD.put {G : DataW Unit} {f g : Int → List Int} (h : GrpD G f) {w : World} {base : Nat} {e : TypeId} {v : Value} {zs : List Int} {n : Int} (ho : w.ownsInts base e .i64 v zs) (h1 : g n = zs) (hne : zs ≠ []) (h2 : ∀ y, y ≠ n → g y = f y) : GrpD (G.put (.int .i64 n) (rowDatum .i64 v zs)) g := by
  refine ⟨h.mp.put _ _, fun y => ?_, fun y => ?_⟩
  · by_cases e1 : y = n
    · subst e1; rw [atKey_put_same h.mp (keyLit_int y), items4_row ho, h1]
    · rw [atKey_put_other (fun h => e1 (by injection h)), h.at_ y, h2 y e1]
  · by_cases e1 : y = n
    · subst e1; rw [has_put_same h.mp (keyLit_int y), h1]; cases zs <;> simp_all
    · rw [has_put_other (fun h => e1 (by injection h)), h.has_ y, h2 y e1]
theorem GrpD.congr {G : DataW Unit} {f g : Int → List Int} (h : GrpD G f) (h2 : ∀ y, g y = f y) : GrpD G g := ⟨h.mp, fun n => by rw [h.at_ n, h2 n], fun n => by rw [h.has_ n, h2 n]⟩
theorem groups_map {w : World} {P : Program} {k e : TypeId} {base b n : Nat} {D : DataW Unit} (h : w.ownsGroups P k base e .i64 b n D) : w.ownsMap P k (rowElem w base e .i64) b n D := by
  obtain ⟨es, clock, h1, h2, h3, h4, -⟩ := h
  exact ⟨es, clock, h1, h2, h3, h4⟩
/-- the groups by how many of the first j lengths -/
def gj4 (p : P4) (wh : Int) (u : W4) (j : Nat) (n : Int) : List Int := ((ln4 p).take j).filter fun l => ((wr4 p wh u l : Nat) : Int) == n
theorem gj4_zero {p : P4} {wh : Int} {u : W4} (n : Int) : gj4 p wh u 0 n = [] := rfl
theorem gj4_yes {p : P4} {wh : Int} {u : W4} {j : Nat} (h : p.glo + j ≤ p.ghi) : gj4 p wh u (j + 1) (wr4 p wh u (p.glo + j)) = gj4 p wh u j (wr4 p wh u (p.glo + j)) ++ [p.glo + j] := by
  unfold gj4
  rw [List.take_add_one, show (ln4 p)[j]? = some (p.glo + j) from ups_get h, List.filter_append]
  simp
theorem gj4_no {p : P4} {wh : Int} {u : W4} {j : Nat} {n : Int} (h : p.glo + j ≤ p.ghi) (hn : n ≠ (wr4 p wh u (p.glo + j) : Nat)) : gj4 p wh u (j + 1) n = gj4 p wh u j n := by
  unfold gj4
  rw [List.take_add_one, show (ln4 p)[j]? = some (p.glo + j) from ups_get h, List.filter_append]
  have : (((wr4 p wh u (p.glo + j) : Nat) : Int) == n) = false := by simpa using fun e => hn e.symm
  simp [this]
theorem gj4_len {p : P4} {wh : Int} {u : W4} {j : Nat} {n : Int} : (gj4 p wh u j n).length ≤ j := Nat.le_trans (List.length_filter_le _ _) (by simp; omega)
/-- the sorted keys of a map -/
theorem keys_sorted {H : Type} {P : Program} {k : TypeId} {R : Value → Option (DataW H × List MemPlace)} {w : World} {b nn : Nat} {D0 : DataW H} {ss L : List Int} (hown : w.ownsMap P k R b nn D0) (hk : P.underlying k = some (.int .i64)) (hs : ss.Perm (intKeys D0))
    (hL : L.Pairwise (· < ·)) (hm : ∀ x, x ∈ L ↔ has D0 (.int .i64 x) = true) : ss.mergeSort (fun x y => decide (x ≤ y)) = L := by
  have hC : CollectedI D0 (fun _ => false) L := ⟨hL.imp fun {a b} h e => by omega, fun x => by rw [hm x]; simp⟩
  have hp : L.Perm (intKeys D0) := hC.perm hown (int_keyed hk) hk (fun _ => rfl)
  have h1 := mergeSort_of_perm_i (hs.trans hp.symm)
  rw [show (fun x y : Int => decide (x ≤ y)) = leI from rfl, h1]
  exact List.mergeSort_of_pairwise (hL.imp fun {a b} h => by simp; omega)
theorem ups_pair {a b : Int} : (ups a b).Pairwise (· < ·) := by
  unfold ups
  rw [List.pairwise_map]
  exact List.pairwise_lt_range.imp fun {x y} h => by omega

end Go.Proofs.Ytjlibgledkdfiaa
