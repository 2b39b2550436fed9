/- Further arguments of the statements of layer 1. -/
import Derived.Test.YtmopnbijfcamjaaJb1
namespace Go.Proofs.Ytmopnbijfcamjaa
open Go.RowKit Go.ChangeShapes Go.WideShapes Go.ChangeAt Go.Deep Go.Joins
open Go.Sort (grow)
set_option linter.unusedVariables false

section
variable {H : Type} {enc : TypeId × Value → H} {w : World} {base : Nat} {spare : Nat → Bool} {held : Bool}
set_option maxRecDepth 100000 in
theorem open_ask1 {r : Reach} {b0 : Nat} {v : Value} {d : DataW H} {p : List MemPlace} (hv : Value.okWide Try.prog w r b0 49 v) (h : DataW.Trod enc Try.prog w base spare held 49 v d p) :
    ∃ e0 e1 e2 e3 : Int, v = .agg #[.int .i64 e0, .int .i64 e1, .int .i64 e2, .int .i64 e3] := by
  obtain ⟨cs, rfl, hsz⟩ := okWide_struct Try.underlying49 hv
  obtain ⟨fuel, hf⟩ := h
  obtain ⟨xs, m, _, -, hl, hxl, hf⟩ := DataW.trod_struct Try.underlying49 hf
  have hsz2 : cs.size = 4 := hsz.trans (by kernel_rfl)
  have hx2 : xs.length = 4 := hxl
  obtain ⟨l⟩ := cs
  have hl2 : l.length = 4 := hsz2
  match l, hl2, xs, hx2 with
  | [c0, c1, c2, c3], _, [y0, y1, y2, y3], _ =>
    have k1 : Try.prog.cellsOf 3 = 1 := by kernel_rfl
    have h0 : DataW.trod enc Try.prog w base spare held m 3 [c0] = some y0 := by have := hf 0 _ rfl; simpa [Value.cells, k1] using this
    have h1 : DataW.trod enc Try.prog w base spare held m 3 [c1] = some y1 := by have := hf 1 _ rfl; simpa [Value.cells, k1] using this
    have h2 : DataW.trod enc Try.prog w base spare held m 3 [c2] = some y2 := by have := hf 2 _ rfl; simpa [Value.cells, k1] using this
    have h3 : DataW.trod enc Try.prog w base spare held m 3 [c3] = some y3 := by have := hf 3 _ rfl; simpa [Value.cells, k1] using this
    obtain ⟨z0, e0, -, -⟩ := DataW.trod_int Try.underlying3 h0
    obtain ⟨z1, e1, -, -⟩ := DataW.trod_int Try.underlying3 h1
    obtain ⟨z2, e2, -, -⟩ := DataW.trod_int Try.underlying3 h2
    obtain ⟨z3, e3, -, -⟩ := DataW.trod_int Try.underlying3 h3
    simp at e0 e1 e2 e3
    subst e0 e1 e2 e3
    exact ⟨_, _, _, _, rfl⟩
set_option maxRecDepth 100000 in
theorem open_better {r : Reach} {b0 : Nat} {v : Value} {d : DataW H} {p : List MemPlace} (hv : Value.okWide Try.prog w r b0 63 v) (h : DataW.Trod enc Try.prog w base spare held 63 v d p) :
    ∃ e0 e1 e2 : Int, v = .agg #[.int .i64 e0, .int .i64 e1, .int .i64 e2] := by
  obtain ⟨cs, rfl, hsz⟩ := okWide_struct Try.underlying63 hv
  obtain ⟨fuel, hf⟩ := h
  obtain ⟨xs, m, _, -, hl, hxl, hf⟩ := DataW.trod_struct Try.underlying63 hf
  have hsz2 : cs.size = 3 := hsz.trans (by kernel_rfl)
  have hx2 : xs.length = 3 := hxl
  obtain ⟨l⟩ := cs
  have hl2 : l.length = 3 := hsz2
  match l, hl2, xs, hx2 with
  | [c0, c1, c2], _, [y0, y1, y2], _ =>
    have k1 : Try.prog.cellsOf 3 = 1 := by kernel_rfl
    have h0 : DataW.trod enc Try.prog w base spare held m 3 [c0] = some y0 := by have := hf 0 _ rfl; simpa [Value.cells, k1] using this
    have h1 : DataW.trod enc Try.prog w base spare held m 3 [c1] = some y1 := by have := hf 1 _ rfl; simpa [Value.cells, k1] using this
    have h2 : DataW.trod enc Try.prog w base spare held m 3 [c2] = some y2 := by have := hf 2 _ rfl; simpa [Value.cells, k1] using this
    obtain ⟨z0, e0, -, -⟩ := DataW.trod_int Try.underlying3 h0
    obtain ⟨z1, e1, -, -⟩ := DataW.trod_int Try.underlying3 h1
    obtain ⟨z2, e2, -, -⟩ := DataW.trod_int Try.underlying3 h2
    simp at e0 e1 e2
    subst e0 e1 e2
    exact ⟨_, _, _, rfl⟩
set_option maxRecDepth 100000 in
theorem open_ints1 {r : Reach} {b0 : Nat} {v : Value} {d : DataW H} {p : List MemPlace} (hv : Value.okWide Try.prog w r b0 32 v) (h : DataW.Trod enc Try.prog w base spare held 32 v d p) :
    ∃ (A : Option Addr) (n c : Nat) (xs : List Int), v = .slice A n c ∧ n ≤ 9223372036854775807 ∧ IntsAt w A n xs := by
  obtain ⟨fuel, hf⟩ := h
  obtain ⟨A, n, c, xs, e0, m0, s0⟩ := open_sl encI 1 0 Try.underlying32 (by kernel_rfl) (by omega) encI_len open_int1 hf
  unfold maxLen at m0
  obtain ⟨a, len, cap, rfl⟩ := okWide_slice Try.underlying32 hv
  simp [Value.cells] at e0
  obtain ⟨rfl, rfl, rfl⟩ := e0
  exact ⟨_, _, _, xs, rfl, m0, s0⟩
end

end Go.Proofs.Ytmopnbijfcamjaa
