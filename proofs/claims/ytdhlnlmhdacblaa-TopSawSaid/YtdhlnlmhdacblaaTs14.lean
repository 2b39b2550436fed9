/- Of of bars (layer 1); Rest of bars (layer 1); Fits of bars (layer 1), with slices.Equal and slices.ContainsFunc; Strange of bars (layer 1). -/
import Derived.BigRegionIn
import Derived.Shelf.RegionOpen
import Derived.Handy
import Derived.Test.YtdhlnlmhdacblaaTs12
import Derived.Test.YtdhlnlmhdacblaaTs13
import Derived.LoopIn
namespace Go.Proofs.Ytdhlnlmhdacblaa
open Go.RowKit
open Go.Sort (grow)
set_option linter.unusedVariables false
set_option linter.unusedSimpArgs false

attribute [local go_sem] Oper.semAt_some
/-- how many sawings of the first k have the piece of each bar -/
def fdL (nb pn : Nat) (T : List Sw) (k : Nat) : List Int := (List.range nb).map fun (j : Nat) => (cntL (fun x => iAt x.of pn == (j : Int)) T k : Int)
theorem fdL_len (nb pn : Nat) (T : List Sw) (k : Nat) : (fdL nb pn T k).length = nb := by simp [fdL]
theorem fdL_at {nb pn : Nat} {T : List Sw} {k j : Nat} (hj : j < nb) : iAt (fdL nb pn T k) j = (cntL (fun x => iAt x.of pn == (j : Int)) T k : Int) := by
  unfold iAt fdL
  rw [List.getD_eq_getElem?_getD, List.getElem?_map, List.getElem?_range hj]
  rfl
theorem fdL_0 (nb pn : Nat) (T : List Sw) : fdL nb pn T 0 = List.replicate nb 0 := by
  apply List.ext_getElem?
  intro j
  unfold fdL
  rw [List.getElem?_map, List.getElem?_replicate]
  by_cases hj : j < nb
  · rw [List.getElem?_range hj, if_pos hj]
    simp [cntL_0]
  · rw [List.getElem?_eq_none (by simpa using hj), if_neg hj]; rfl
theorem fdL_succ {nb pn : Nat} {T : List Sw} {k bar : Nat} {x : Sw} (h : T[k]? = some x) (hb : iAt x.of pn = (bar : Int)) (hl : bar < nb) : fdL nb pn T (k + 1) = (fdL nb pn T k).set bar (iAt (fdL nb pn T k) bar + 1) := by
  apply List.ext_getElem?
  intro j
  rw [List.getElem?_set]
  by_cases hj : j < nb
  · have e1 : ∀ q, (fdL nb pn T q)[j]? = some ((cntL (fun x => iAt x.of pn == (j : Int)) T q : Int)) := fun q => by
      unfold fdL
      rw [List.getElem?_map, List.getElem?_range hj]; rfl
    rw [e1, e1, cntL_succ h, hb]
    by_cases e : bar = j
    · subst e
      rw [if_pos rfl, if_pos (by rw [fdL_len]; exact hl), fdL_at hl]
      simp
    · rw [if_neg e]
      have : ((bar : Int) == (j : Int)) = false := by simp; omega
      rw [this]; simp
  · rw [List.getElem?_eq_none (by rw [fdL_len]; omega), if_neg (by omega), List.getElem?_eq_none (by rw [fdL_len]; omega)]
theorem swL_of_bar {bs : List Br} {ps : List Pc} {kf wr : Int} {nb : Nat} : ∀ (p : Nat) (st x : Sw), (∀ v ∈ st.of, ∃ b : Nat, b < nb ∧ v = (b : Int)) → x ∈ swL bs ps kf wr nb p st → ∀ v ∈ x.of, ∃ b : Nat, b < nb ∧ v = (b : Int) := by
  intro p
  induction p with
  | zero => intro st x h0 h; simp [swL] at h; rw [h]; exact h0
  | succ p ih =>
    intro st x h0 h
    rw [swL_succ, swK, List.mem_flatMap] at h
    obtain ⟨bar, hbar, h⟩ := h
    cases e : tkS bs ps kf wr st bar <;> rw [e] at h
    · simp at h
    · refine ih _ x (fun v hv => ?_) h
      simp only [stS, List.mem_append, List.mem_singleton] at hv
      rcases hv with hv | rfl
      · exact h0 v hv
      · exact ⟨bar, by simpa using hbar, rfl⟩
theorem iAt_mem {l : List Int} {k : Nat} (h : k < l.length) : iAt l k ∈ l := by
  unfold iAt
  rw [List.getD_eq_getElem?_getD, List.getElem?_eq_getElem h]
  exact List.getElem_mem h
theorem swA_of_bar {bs : List Br} {ps : List Pc} {kf wr : Int} {x : Sw} {k : Nat} (h : x ∈ swA bs ps kf wr) (hk : k < ps.length) : ∃ b : Nat, b < bs.length ∧ iAt x.of k = (b : Int) :=
  swL_of_bar _ _ x (by simp [sw0]) h _ (iAt_mem (by rw [swA_of_len h]; exact hk))
def ofL (nb pn : Nat) (T : List Sw) (k : Nat) : List Int := ((List.range k).filter fun (j : Nat) => decide (0 < T.countP fun x => iAt x.of pn == (j : Int))).map fun (j : Nat) => (j : Int)
theorem ofL_len (nb pn : Nat) (T : List Sw) (k : Nat) : (ofL nb pn T k).length ≤ k := by
  unfold ofL
  rw [List.length_map]
  exact Nat.le_trans (List.length_filter_le _ _) (by simp)
theorem ofL_yes {nb pn : Nat} {T : List Sw} {k : Nat} (h : 0 < T.countP fun x => iAt x.of pn == (k : Int)) : ofL nb pn T (k + 1) = ofL nb pn T k ++ [(k : Int)] := by
  unfold ofL
  generalize hq : (fun (j : Nat) => decide (0 < T.countP fun x => iAt x.of pn == (j : Int))) = q
  have hqk : q k = true := by rw [← hq]; exact decide_eq_true h
  rw [List.range_succ, List.filter_append, List.map_append]; simp [hqk]
theorem ofL_no {nb pn : Nat} {T : List Sw} {k : Nat} (h : ¬ 0 < T.countP fun x => iAt x.of pn == (k : Int)) : ofL nb pn T (k + 1) = ofL nb pn T k := by
  unfold ofL
  generalize hq : (fun (j : Nat) => decide (0 < T.countP fun x => iAt x.of pn == (j : Int))) = q
  have hqk : q k = false := by rw [← hq]; exact decide_eq_false h
  rw [List.range_succ, List.filter_append, List.map_append]; simp [hqk]
def ofP (bs : List Br) (ps : List Pc) (kf wr piece : Int) : List Int := bif askE bs ps kf wr (wi piece 0 ((ps.length : Int) - 1)) == 0 then ofL bs.length piece.toNat (swA bs ps kf wr) bs.length else []

end Go.Proofs.Ytdhlnlmhdacblaa

namespace Go.Proofs.Ytdhlnlmhdacblaa
open Go.RowKit
open Go.Sort (grow)
set_option linter.unusedVariables false
set_option linter.unusedSimpArgs false

attribute [local go_sem] Oper.semAt_some
def mn2 (a b : Int) : Int := if b < a then b else a
def mx2 (a b : Int) : Int := if a < b then b else a
theorem run_min2 {P : Program} {w : World} (ts : Array TypeId) (t : TypeId) (x y : Int) : (Builtin.min_ ts t #[.int .i64 x, .int .i64 y]).run P w = .ok (.int .i64 (mn2 x y)) w := by
  simp [Builtin.min_, Builtin.min2, mn2]
theorem run_max2 {P : Program} {w : World} (ts : Array TypeId) (t : TypeId) (x y : Int) : (Builtin.max_ ts t #[.int .i64 x, .int .i64 y]).run P w = .ok (.int .i64 (mx2 x y)) w := by
  simp [Builtin.max_, Builtin.max2, mx2]
attribute [local go_sem] run_min2 run_max2
def rsF (bar : Nat) (o : Sp) (x : Sw) : Sp := ⟨mn2 o.lo (iAt x.rests bar), mx2 o.hi (iAt x.rests bar)⟩
def restP (bs : List Br) (ps : List Pc) (kf wr bar : Int) : Sp × Int :=
  bif askE bs ps kf wr (wi bar 0 ((bs.length : Int) - 1)) == 0 then ((swA bs ps kf wr).foldl (rsF bar.toNat) ⟨999, 0⟩, 0) else (⟨0, 0⟩, askE bs ps kf wr (wi bar 0 ((bs.length : Int) - 1)))

end Go.Proofs.Ytdhlnlmhdacblaa

namespace Go.Proofs.Ytdhlnlmhdacblaa
open Go.RowKit
open Go.Sort (grow)
set_option linter.unusedVariables false
set_option linter.unusedSimpArgs false

attribute [local go_sem] Oper.semAt_some
def eqI (xs ys : List Int) : Bool := xs.length == ys.length && allN xs.length fun k => iAt xs k == iAt ys k
theorem eqI_iff {xs ys : List Int} : eqI xs ys = true ↔ xs = ys := by
  unfold eqI
  simp only [Bool.and_eq_true, beq_iff_eq, allN_iff]
  refine ⟨fun ⟨h, h2⟩ => ?_, fun h => by subst h; simp⟩
  apply List.ext_getElem? fun k => ?_
  by_cases hk : k < xs.length
  · have := h2 k hk
    unfold iAt at this
    rw [List.getD_eq_getElem?_getD, List.getD_eq_getElem?_getD, List.getElem?_eq_getElem hk, List.getElem?_eq_getElem (by omega)] at this
    rw [List.getElem?_eq_getElem hk, List.getElem?_eq_getElem (by omega)]
    simpa using this
  · rw [List.getElem?_eq_none (by omega), List.getElem?_eq_none (by omega)]
def badI (nb : Nat) (ls : List Int) : Bool := anyN ls.length fun k => !wi (iAt ls k) 0 ((nb : Int) - 1)
def fitP (bs : List Br) (ps : List Pc) (kf wr : Int) (ls : List Int) : Bool × Int :=
  bif ckS bs ps kf wr then (bif ls.length == ps.length && !badI bs.length ls then ((swA bs ps kf wr).any fun x => eqI x.of ls, 0) else (false, 1)) else (false, 10)

end Go.Proofs.Ytdhlnlmhdacblaa

namespace Go.Proofs.Ytdhlnlmhdacblaa
open Go.RowKit
open Go.Sort (grow)
set_option linter.unusedVariables false
set_option linter.unusedSimpArgs false

attribute [local go_sem] Oper.semAt_some
/-- the mark of a piece is right -/
def rtB (bs : List Br) (ps : List Pc) (j : Nat) (x : Sw) : Bool := !wrB bs ps j (iAt x.of j).toNat
def rgL (bs : List Br) (ps : List Pc) (np : Nat) (T : List Sw) (k q : Nat) : List Int := (List.range np).map fun (j : Nat) => (cntL (rtB bs ps j) T (if j < q then k + 1 else k) : Int)
section
variable {bs : List Br} {ps : List Pc} {np k q : Nat} {T : List Sw}
theorem rgL_len (bs : List Br) (ps : List Pc) (np : Nat) (T : List Sw) (k q : Nat) : (rgL bs ps np T k q).length = np := by simp [rgL]
theorem rgL_get (j : Nat) (hj : j < np) : (rgL bs ps np T k q)[j]? = some (cntL (rtB bs ps j) T (if j < q then k + 1 else k) : Int) := by
  unfold rgL
  rw [List.getElem?_map, List.getElem?_range hj]; rfl
theorem rgL_at {j : Nat} (hj : j < np) : iAt (rgL bs ps np T k q) j = (cntL (rtB bs ps j) T (if j < q then k + 1 else k) : Int) := by
  unfold iAt
  rw [List.getD_eq_getElem?_getD, rgL_get j hj]; rfl
theorem rgL_0 (bs : List Br) (ps : List Pc) (np : Nat) (T : List Sw) : rgL bs ps np T 0 0 = List.replicate np 0 := by
  apply List.ext_getElem?
  intro j
  rw [List.getElem?_replicate]
  by_cases hj : j < np
  · rw [rgL_get j hj, if_pos hj, if_neg (by omega), cntL_0]; rfl
  · rw [List.getElem?_eq_none (by rw [rgL_len]; omega), if_neg hj]
theorem rgL_all (bs : List Br) (ps : List Pc) (np : Nat) (T : List Sw) (k : Nat) : rgL bs ps np T k np = rgL bs ps np T (k + 1) 0 := by
  apply List.ext_getElem?
  intro j
  by_cases hj : j < np
  · rw [rgL_get j hj, rgL_get j hj, if_pos hj, if_neg (by omega)]
  · rw [List.getElem?_eq_none (by rw [rgL_len]; omega), List.getElem?_eq_none (by rw [rgL_len]; omega)]
theorem rgL_yes {x : Sw} (h : T[k]? = some x) (hq : q < np) (hr : rtB bs ps q x = true) : rgL bs ps np T k (q + 1) = (rgL bs ps np T k q).set q (iAt (rgL bs ps np T k q) q + 1) := by
  apply List.ext_getElem?
  intro j
  rw [List.getElem?_set]
  by_cases hj : j < np
  · rw [rgL_get j hj, rgL_get j hj]
    by_cases e : q = j
    · subst e
      rw [if_pos rfl, if_pos (show q < (rgL bs ps np T k q).length by rw [rgL_len]; exact hq), rgL_at hq, if_pos (Nat.lt_succ_self q), if_neg (Nat.lt_irrefl q), cntL_succ h, hr]
      simp
    · rw [if_neg e]
      by_cases h1 : j < q
      · rw [if_pos h1, if_pos (by omega)]
      · rw [if_neg h1, if_neg (by omega)]
  · rw [List.getElem?_eq_none (by rw [rgL_len]; omega), if_neg (by omega), List.getElem?_eq_none (by rw [rgL_len]; omega)]
theorem rgL_no {x : Sw} (h : T[k]? = some x) (hr : rtB bs ps q x = false) : rgL bs ps np T k (q + 1) = rgL bs ps np T k q := by
  apply List.ext_getElem?
  intro j
  by_cases hj : j < np
  · rw [rgL_get j hj, rgL_get j hj]
    by_cases e : q = j
    · subst e
      rw [if_pos (by omega), if_neg (by omega), cntL_succ h, hr]
      simp
    · by_cases h1 : j < q
      · rw [if_pos h1, if_pos (by omega)]
      · rw [if_neg h1, if_neg (by omega)]
  · rw [List.getElem?_eq_none (by rw [rgL_len]; omega), List.getElem?_eq_none (by rw [rgL_len]; omega)]
end
def stL (bs : List Br) (ps : List Pc) (T : List Sw) (k : Nat) : List Int := ((List.range k).filter fun (j : Nat) => T.countP (rtB bs ps j) == 0).map fun (j : Nat) => (j : Int)
theorem stL_len (bs : List Br) (ps : List Pc) (T : List Sw) (k : Nat) : (stL bs ps T k).length ≤ k := by
  unfold stL
  rw [List.length_map]
  exact Nat.le_trans (List.length_filter_le _ _) (by simp)
theorem stL_yes {bs : List Br} {ps : List Pc} {T : List Sw} {k : Nat} (h : T.countP (rtB bs ps k) = 0) : stL bs ps T (k + 1) = stL bs ps T k ++ [(k : Int)] := by
  unfold stL
  generalize hq : (fun (j : Nat) => T.countP (rtB bs ps j) == 0) = q
  have hqk : q k = true := by rw [← hq]; show (T.countP (rtB bs ps k) == 0) = true; rw [h]; rfl
  rw [List.range_succ, List.filter_append, List.map_append]; simp [hqk]
theorem stL_no {bs : List Br} {ps : List Pc} {T : List Sw} {k : Nat} (h : T.countP (rtB bs ps k) ≠ 0) : stL bs ps T (k + 1) = stL bs ps T k := by
  unfold stL
  generalize hq : (fun (j : Nat) => T.countP (rtB bs ps j) == 0) = q
  have hqk : q k = false := by rw [← hq]; show (T.countP (rtB bs ps k) == 0) = false; exact beq_false_of_ne h
  rw [List.range_succ, List.filter_append, List.map_append]; simp [hqk]
def strP (bs : List Br) (ps : List Pc) (kf wr : Int) : List Int := bif askE bs ps kf wr true == 0 then stL bs ps (swA bs ps kf wr) ps.length else []

end Go.Proofs.Ytdhlnlmhdacblaa
