/- A cable, an ask that came in as an argument (layer 7). -/
import Derived.Test.YtcbeiadimchknaaGreatQp48
import Derived.Test.YtcbeiadimchknaaGreatQp32
namespace Go.Proofs.YtcbeiadimchknaaGreat
open Go.RowKit Go.ChangeShapes Go.WideShapes Go.ChangeAt Go.Deep Go.Joins
open Go.Sort (grow)
set_option linter.unusedVariables false
set_option linter.unusedSimpArgs false

section
variable {H : Type} {enc : TypeId × Value → H} {w : World} {base : Nat} {spare : Nat → Bool} {held : Bool}
set_option maxRecDepth 100000 in
theorem open_span (n : Nat) (cs : List Value) (x : DataW H × List MemPlace) (h : DataW.trod enc Tryz.prog w base spare held n 34 cs = some x) : ∃ a : Sp, cs = encS a := by
  obtain ⟨xs, m, rfl, -, hl, hxl, hf⟩ := DataW.trod_struct Tryz.underlying34 h
  have hl2 : cs.length = 2 := hl.trans (by kernel_rfl)
  have hx2 : xs.length = 2 := hxl
  match cs, hl2, xs, hx2 with
  | [c0, c1], _, [y0, y1], _ =>
    have k1 : Tryz.prog.cellsOf 3 = 1 := by kernel_rfl
    have h0 : DataW.trod enc Tryz.prog w base spare held m 3 [c0] = some y0 := by have := hf 0 _ rfl; simpa [k1] using this
    have h1 : DataW.trod enc Tryz.prog w base spare held m 3 [c1] = some y1 := by have := hf 1 _ rfl; simpa [k1] using this
    obtain ⟨a, ha, -, -⟩ := DataW.trod_int Tryz.underlying3 h0
    obtain ⟨b, hb, -, -⟩ := DataW.trod_int Tryz.underlying3 h1
    simp at ha hb
    subst ha hb
    exact ⟨⟨a, b⟩, rfl⟩
set_option maxRecDepth 100000 in
theorem open_cable {r : Reach} {b0 : Nat} {v : Value} {d : DataW H} {p : List MemPlace} (hv : Value.okWide Tryz.prog w r b0 24 v) (h : DataW.Trod enc Tryz.prog w base spare held 24 v d p) :
    ∃ (A : Option Addr) (n c : Nat) (q : Cb) (ls : List Sp), v = .agg #[.slice A n c, .int .i64 q.need, .int .i64 q.gap, .int .i64 q.doubt, .int .i64 q.joins, .int .i64 q.least] ∧ n ≤ 9223372036854775807 ∧ SpsAt w A n ls ∧ CbOk q := by
  obtain ⟨cs, rfl, hsz⟩ := okWide_struct Tryz.underlying24 hv
  obtain ⟨fuel, hf⟩ := h
  obtain ⟨xs, m, _, -, hl, hxl, hf⟩ := DataW.trod_struct Tryz.underlying24 hf
  have hsz2 : cs.size = 6 := hsz.trans (by kernel_rfl)
  have hx2 : xs.length = 6 := hxl
  obtain ⟨l⟩ := cs
  have hl2 : l.length = 6 := hsz2
  match l, hl2, xs, hx2 with
  | [c0, c1, c2, c3, c4, c5], _, [y0, y1, y2, y3, y4, y5], _ =>
    have k1 : Tryz.prog.cellsOf 3 = 1 := by kernel_rfl
    have k2 : Tryz.prog.cellsOf 22 = 1 := by kernel_rfl
    have h0 : DataW.trod enc Tryz.prog w base spare held m 22 [c0] = some y0 := by have := hf 0 _ rfl; simpa [Value.cells, k2] using this
    have h1 : DataW.trod enc Tryz.prog w base spare held m 3 [c1] = some y1 := by have := hf 1 _ rfl; simpa [Value.cells, k1] using this
    have h2 : DataW.trod enc Tryz.prog w base spare held m 3 [c2] = some y2 := by have := hf 2 _ rfl; simpa [Value.cells, k1] using this
    have h3 : DataW.trod enc Tryz.prog w base spare held m 3 [c3] = some y3 := by have := hf 3 _ rfl; simpa [Value.cells, k1] using this
    have h4 : DataW.trod enc Tryz.prog w base spare held m 3 [c4] = some y4 := by have := hf 4 _ rfl; simpa [Value.cells, k1] using this
    have h5 : DataW.trod enc Tryz.prog w base spare held m 3 [c5] = some y5 := by have := hf 5 _ rfl; simpa [Value.cells, k1] using this
    obtain ⟨A, n, c, ls, e0, m0, s0⟩ := open_sl encS 2 ⟨0, 0⟩ Tryz.underlying22 (by kernel_rfl) (by omega) encS_len open_span h0
    obtain ⟨z1, e1, -, -⟩ := DataW.trod_int Tryz.underlying3 h1
    obtain ⟨z2, e2, -, -⟩ := DataW.trod_int Tryz.underlying3 h2
    obtain ⟨z3, e3, -, w3⟩ := DataW.trod_int Tryz.underlying3 h3
    obtain ⟨z4, e4, -, w4⟩ := DataW.trod_int Tryz.underlying3 h4
    obtain ⟨z5, e5, -, -⟩ := DataW.trod_int Tryz.underlying3 h5
    simp at e0 e1 e2 e3 e4 e5
    subst e0 e1 e2 e3 e4 e5
    unfold maxLen at m0
    simp only [Lit.wf, Bool.and_eq_true, decide_eq_true_eq] at w3 w4
    have i1 : IntKind.i64.min = -9223372036854775808 := rfl
    have i2 : IntKind.i64.max = 9223372036854775807 := rfl
    exact ⟨A, n, c, ⟨z1, z2, z3, z4, z5⟩, ls, rfl, m0, s0, by unfold CbOk; simp only; omega⟩
set_option maxRecDepth 100000 in
theorem open_int1_q7 (n : Nat) (cs : List Value) (x : DataW H × List MemPlace) (h : DataW.trod enc Tryz.prog w base spare held n 3 cs = some x) : ∃ a : Int, cs = encI a := by
  obtain ⟨a, ha, -, -⟩ := DataW.trod_int Tryz.underlying3 h
  exact ⟨a, ha⟩
set_option maxRecDepth 100000 in
theorem open_ints {r : Reach} {b0 : Nat} {v : Value} {d : DataW H} {p : List MemPlace} (hv : Value.okWide Tryz.prog w r b0 29 v) (h : DataW.Trod enc Tryz.prog w base spare held 29 v d p) :
    ∃ (A : Option Addr) (n c : Nat) (xs : List Int), v = .slice A n c ∧ n ≤ 9223372036854775807 ∧ IntsAt w A n xs := by
  obtain ⟨fuel, hf⟩ := h
  obtain ⟨A, n, c, xs, e0, m0, s0⟩ := open_sl encI 1 0 Tryz.underlying29 (by kernel_rfl) (by omega) encI_len open_int1_q7 hf
  unfold maxLen at m0
  obtain ⟨a, len, cap, rfl⟩ := okWide_slice Tryz.underlying29 hv
  simp [Value.cells] at e0
  obtain ⟨rfl, rfl, rfl⟩ := e0
  exact ⟨_, _, _, xs, rfl, m0, s0⟩
set_option maxRecDepth 100000 in
theorem open_sp {r : Reach} {b0 : Nat} {v : Value} {d : DataW H} {p : List MemPlace} (hv : Value.okWide Tryz.prog w r b0 34 v) (h : DataW.Trod enc Tryz.prog w base spare held 34 v d p) :
    ∃ s : Sp, v = .agg #[.int .i64 s.lo, .int .i64 s.hi] ∧ (-9223372036854775808 ≤ s.lo ∧ s.lo ≤ 9223372036854775807) ∧ (-9223372036854775808 ≤ s.hi ∧ s.hi ≤ 9223372036854775807) := by
  obtain ⟨v0, v1, y0, y1, n, rfl, -, -, h0, h1⟩ := open_agg2 Tryz.underlying34 (by kernel_rfl) (by kernel_rfl) hv h
  obtain ⟨z0, e0, -, w0⟩ := DataW.trod_int Tryz.underlying3 h0
  obtain ⟨z1, e1, -, w1⟩ := DataW.trod_int Tryz.underlying3 h1
  simp at e0 e1
  subst e0 e1
  simp only [Lit.wf, Bool.and_eq_true, decide_eq_true_eq] at w0 w1
  have i1 : IntKind.i64.min = -9223372036854775808 := rfl
  have i2 : IntKind.i64.max = 9223372036854775807 := rfl
  exact ⟨⟨z0, z1⟩, rfl, by show _ ≤ z0 ∧ z0 ≤ _; omega, by show _ ≤ z1 ∧ z1 ≤ _; omega⟩
end

end Go.Proofs.YtcbeiadimchknaaGreat
