/- A machine, a setting, a trial of a cable that came in as an argument (layers 3, 7). -/
import Derived.Test.YtglpgcgidkdkiaaQd49
import Derived.Test.YtglpgcgidkdkiaaQd47
import Derived.SizedLaws
namespace Go.Proofs.Ytglpgcgidkdkiaa
open Go.RowKit Go.ChangeShapes Go.WideShapes Go.ChangeAt Go.Deep Go.Joins
open Go.Sort (grow)
set_option linter.unusedVariables false
set_option linter.unusedSimpArgs false

section
variable {H : Type} {enc : TypeId × Value → H} {w : World} {base : Nat} {spare : Nat → Bool} {held : Bool}
set_option maxRecDepth 100000 in
theorem open_spanT (n : Nat) (cs : List Value) (x : DataW H × List MemPlace) (h : DataW.trod enc Try.prog w base spare held n 23 cs = some x) : ∃ a : Sp, cs = encS a := by
  obtain ⟨xs, m, rfl, -, hl, hxl, hf⟩ := DataW.trod_struct Try.underlying23 h
  have hl2 : cs.length = 2 := hl.trans (by kernel_rfl)
  have hx2 : xs.length = 2 := hxl
  match cs, hl2, xs, hx2 with
  | [c0, c1], _, [y0, y1], _ =>
    have k1 : Try.prog.cellsOf 3 = 1 := by kernel_rfl
    have h0 : DataW.trod enc Try.prog w base spare held m 3 [c0] = some y0 := by have := hf 0 _ rfl; simpa [k1] using this
    have h1 : DataW.trod enc Try.prog w base spare held m 3 [c1] = some y1 := by have := hf 1 _ rfl; simpa [k1] using this
    obtain ⟨z0, e0, -, -⟩ := DataW.trod_int Try.underlying3 h0
    obtain ⟨z1, e1, -, -⟩ := DataW.trod_int Try.underlying3 h1
    simp at e0 e1
    subst e0 e1
    exact ⟨⟨z0, z1⟩, rfl⟩
set_option maxRecDepth 100000 in
theorem open_leverT (n : Nat) (cs : List Value) (x : DataW H × List MemPlace) (h : DataW.trod enc Try.prog w base spare held n 98 cs = some x) : ∃ a : Lv, cs = encV a := by
  obtain ⟨xs, m, rfl, -, hl, hxl, hf⟩ := DataW.trod_struct Try.underlying98 h
  have hl2 : cs.length = 3 := hl.trans (by kernel_rfl)
  have hx2 : xs.length = 2 := hxl
  match cs, hl2, xs, hx2 with
  | [c0, c1, c2], _, [y0, y1], _ =>
    have k1 : Try.prog.cellsOf 3 = 1 := by kernel_rfl
    have k2 : Try.prog.cellsOf 23 = 2 := by kernel_rfl
    have h0 : DataW.trod enc Try.prog w base spare held m 3 [c0] = some y0 := by have := hf 0 _ rfl; simpa [k1] using this
    have h1 : DataW.trod enc Try.prog w base spare held m 23 [c1, c2] = some y1 := by have := hf 1 _ rfl; simpa [k2] using this
    obtain ⟨z0, e0, -, -⟩ := DataW.trod_int Try.underlying3 h0
    obtain ⟨s, e1⟩ := open_spanT _ _ _ h1
    simp [encS] at e0 e1
    obtain ⟨e1, e2⟩ := e1
    subst e0 e1 e2
    exact ⟨⟨z0, s.lo, s.hi⟩, rfl⟩
set_option maxRecDepth 100000 in
theorem open_balT (n : Nat) (cs : List Value) (x : DataW H × List MemPlace) (h : DataW.trod enc Try.prog w base spare held n 100 cs = some x) : ∃ a : Bal, cs = encA a := by
  obtain ⟨xs, m, rfl, -, hl, hxl, hf⟩ := DataW.trod_struct Try.underlying100 h
  have hl2 : cs.length = 4 := hl.trans (by kernel_rfl)
  have hx2 : xs.length = 4 := hxl
  match cs, hl2, xs, hx2 with
  | [c0, c1, c2, c3], _, [y0, y1, y2, y3], _ =>
    have k1 : Try.prog.cellsOf 3 = 1 := by kernel_rfl
    have h0 : DataW.trod enc Try.prog w base spare held m 3 [c0] = some y0 := by have := hf 0 _ rfl; simpa [k1] using this
    have h1 : DataW.trod enc Try.prog w base spare held m 3 [c1] = some y1 := by have := hf 1 _ rfl; simpa [k1] using this
    have h2 : DataW.trod enc Try.prog w base spare held m 3 [c2] = some y2 := by have := hf 2 _ rfl; simpa [k1] using this
    have h3 : DataW.trod enc Try.prog w base spare held m 3 [c3] = some y3 := by have := hf 3 _ rfl; simpa [k1] using this
    obtain ⟨z0, e0, -, -⟩ := DataW.trod_int Try.underlying3 h0
    obtain ⟨z1, e1, -, -⟩ := DataW.trod_int Try.underlying3 h1
    obtain ⟨z2, e2, -, -⟩ := DataW.trod_int Try.underlying3 h2
    obtain ⟨z3, e3, -, -⟩ := DataW.trod_int Try.underlying3 h3
    simp at e0 e1 e2 e3
    subst e0 e1 e2 e3
    exact ⟨⟨z0, z1, z2, z3⟩, rfl⟩
theorem open_intT (n : Nat) (cs : List Value) (x : DataW H × List MemPlace) (h : DataW.trod enc Try.prog w base spare held n 3 cs = some x) : ∃ a : Int, cs = encI a := by
  obtain ⟨z, e, -, -⟩ := DataW.trod_int Try.underlying3 h
  exact ⟨z, e⟩
set_option maxRecDepth 100000 in
theorem open_cabT (n : Nat) (cs : List Value) (x : DataW H × List MemPlace) (h : DataW.trod enc Try.prog w base spare held n 48 cs = some x) : ∃ (A : Option Addr) (k c : Nat) (q : Cb) (ls : List Sp), cs = [.slice A k c, .int .i64 q.need, .int .i64 q.gap, .int .i64 q.doubt, .int .i64 q.joins, .int .i64 q.least] ∧ SpsAt w A k ls ∧ CbOk q := by
  obtain ⟨xs, m, rfl, -, hl, hxl, hf⟩ := DataW.trod_struct Try.underlying48 h
  have hl2 : cs.length = 6 := hl.trans (by kernel_rfl)
  have hx2 : xs.length = 6 := hxl
  match cs, hl2, xs, hx2 with
  | [c0, c1, c2, c3, c4, c5], _, [y0, y1, y2, y3, y4, y5], _ =>
    have k1 : Try.prog.cellsOf 46 = 1 := by kernel_rfl
    have k2 : Try.prog.cellsOf 3 = 1 := by kernel_rfl
    have h0 : DataW.trod enc Try.prog w base spare held m 46 [c0] = some y0 := by have := hf 0 _ rfl; simpa [k1] using this
    have h1 : DataW.trod enc Try.prog w base spare held m 3 [c1] = some y1 := by have := hf 1 _ rfl; simpa [k2] using this
    have h2 : DataW.trod enc Try.prog w base spare held m 3 [c2] = some y2 := by have := hf 2 _ rfl; simpa [k2] using this
    have h3 : DataW.trod enc Try.prog w base spare held m 3 [c3] = some y3 := by have := hf 3 _ rfl; simpa [k2] using this
    have h4 : DataW.trod enc Try.prog w base spare held m 3 [c4] = some y4 := by have := hf 4 _ rfl; simpa [k2] using this
    have h5 : DataW.trod enc Try.prog w base spare held m 3 [c5] = some y5 := by have := hf 5 _ rfl; simpa [k2] using this
    obtain ⟨A0, n0, r0, l0, e0, -, s0⟩ := open_sl encS 2 ⟨0, 0⟩ Try.underlying46 (by kernel_rfl) (by omega) encS_len open_spanT h0
    obtain ⟨z1, e1, -, -⟩ := DataW.trod_int Try.underlying3 h1
    obtain ⟨z2, e2, -, -⟩ := DataW.trod_int Try.underlying3 h2
    obtain ⟨z3, e3, -, w3⟩ := DataW.trod_int Try.underlying3 h3
    obtain ⟨z4, e4, -, w4⟩ := DataW.trod_int Try.underlying3 h4
    obtain ⟨z5, e5, -, -⟩ := DataW.trod_int Try.underlying3 h5
    simp at e0 e1 e2 e3 e4 e5
    subst e0 e1 e2 e3 e4 e5
    simp only [Lit.wf, Bool.and_eq_true, decide_eq_true_eq] at w3 w4
    have i1 : IntKind.i64.min = -9223372036854775808 := rfl
    have i2 : IntKind.i64.max = 9223372036854775807 := rfl
    exact ⟨A0, n0, r0, ⟨z1, z2, z3, z4, z5⟩, l0, rfl, s0, by unfold CbOk; simp only; omega⟩
set_option maxRecDepth 100000 in
theorem open_machine {r : Reach} {b0 : Nat} {v : Value} {d : DataW H} {p : List MemPlace} (hv : Value.okWide Try.prog w r b0 41 v) (h : DataW.Trod enc Try.prog w base spare held 41 v d p) :
    ∃ (Al : Option Addr) (nl cl : Nat) (wa la lb : Int) (Ab : Option Addr) (nb cb : Nat) (wrg : Int) (lv : List Lv) (bl : List Bal), v = .agg #[.slice Al nl cl, .int .i64 wa, .int .i64 la, .int .i64 lb, .slice Ab nb cb, .int .i64 wrg] ∧ LvsAt w Al nl lv ∧ BasAt w Ab nb bl := by
  obtain ⟨cs, rfl, hsz⟩ := okWide_struct Try.underlying41 hv
  obtain ⟨fuel, hf⟩ := h
  obtain ⟨xs, m, _, -, hl, hxl, hf⟩ := DataW.trod_struct Try.underlying41 hf
  have hsz2 : cs.size = 6 := hsz.trans (by kernel_rfl)
  have hx2 : xs.length = 5 := hxl
  obtain ⟨l⟩ := cs
  have hl2 : l.length = 6 := hsz2
  match l, hl2, xs, hx2 with
  | [c0, c1, c2, c3, c4, c5], _, [y0, y1, y2, y3, y4], _ =>
    have k1 : Try.prog.cellsOf 38 = 1 := by kernel_rfl
    have k2 : Try.prog.cellsOf 3 = 1 := by kernel_rfl
    have k3 : Try.prog.cellsOf 23 = 2 := by kernel_rfl
    have k4 : Try.prog.cellsOf 39 = 1 := by kernel_rfl
    have h0 : DataW.trod enc Try.prog w base spare held m 38 [c0] = some y0 := by have := hf 0 _ rfl; simpa [Value.cells, k1] using this
    have h1 : DataW.trod enc Try.prog w base spare held m 3 [c1] = some y1 := by have := hf 1 _ rfl; simpa [Value.cells, k2] using this
    have h2 : DataW.trod enc Try.prog w base spare held m 23 [c2, c3] = some y2 := by have := hf 2 _ rfl; simpa [Value.cells, k3] using this
    have h3 : DataW.trod enc Try.prog w base spare held m 39 [c4] = some y3 := by have := hf 3 _ rfl; simpa [Value.cells, k4] using this
    have h4 : DataW.trod enc Try.prog w base spare held m 3 [c5] = some y4 := by have := hf 4 _ rfl; simpa [Value.cells, k2] using this
    obtain ⟨A0, n0, r0, l0, e0, -, s0⟩ := open_sl encV 3 ⟨0, 0, 0⟩ Try.underlying38 (by kernel_rfl) (by omega) encV_len open_leverT h0
    obtain ⟨z1, e1, -, -⟩ := DataW.trod_int Try.underlying3 h1
    obtain ⟨s, e2⟩ := open_spanT _ _ _ h2
    obtain ⟨A3, n3, r3, l3, e3, -, s3⟩ := open_sl encA 4 ⟨0, 0, 0, 0⟩ Try.underlying39 (by kernel_rfl) (by omega) encA_len open_balT h3
    obtain ⟨z4, e4, -, -⟩ := DataW.trod_int Try.underlying3 h4
    simp [encS] at e0 e1 e2 e3 e4
    obtain ⟨e2, e5⟩ := e2
    subst e0 e1 e2 e3 e4 e5
    exact ⟨A0, n0, r0, z1, s.lo, s.hi, A3, n3, r3, z4, l0, l3, rfl, s0, s3⟩
set_option maxRecDepth 100000 in
theorem open_setting {r : Reach} {b0 : Nat} {v : Value} {d : DataW H} {p : List MemPlace} (hv : Value.okWide Try.prog w r b0 45 v) (h : DataW.Trod enc Try.prog w base spare held 45 v d p) :
    ∃ (A : Option Addr) (k c : Nat) (lk : Int) (us : List Int), v = .agg #[.slice A k c, .int .i64 lk] ∧ IntsAt w A k us := by
  obtain ⟨cs, rfl, hsz⟩ := okWide_struct Try.underlying45 hv
  obtain ⟨fuel, hf⟩ := h
  obtain ⟨xs, m, _, -, hl, hxl, hf⟩ := DataW.trod_struct Try.underlying45 hf
  have hsz2 : cs.size = 2 := hsz.trans (by kernel_rfl)
  have hx2 : xs.length = 2 := hxl
  obtain ⟨l⟩ := cs
  have hl2 : l.length = 2 := hsz2
  match l, hl2, xs, hx2 with
  | [c0, c1], _, [y0, y1], _ =>
    have k1 : Try.prog.cellsOf 33 = 1 := by kernel_rfl
    have k2 : Try.prog.cellsOf 3 = 1 := by kernel_rfl
    have h0 : DataW.trod enc Try.prog w base spare held m 33 [c0] = some y0 := by have := hf 0 _ rfl; simpa [Value.cells, k1] using this
    have h1 : DataW.trod enc Try.prog w base spare held m 3 [c1] = some y1 := by have := hf 1 _ rfl; simpa [Value.cells, k2] using this
    obtain ⟨A0, n0, r0, l0, e0, -, s0⟩ := open_sl encI 1 0 Try.underlying33 (by kernel_rfl) (by omega) encI_len open_intT h0
    obtain ⟨z1, e1, -, -⟩ := DataW.trod_int Try.underlying3 h1
    simp at e0 e1
    subst e0 e1
    exact ⟨A0, n0, r0, z1, l0, rfl, s0⟩
set_option maxRecDepth 100000 in
theorem open_trial {r : Reach} {b0 : Nat} {v : Value} {d : DataW H} {p : List MemPlace} (hv : Value.okWide Try.prog w r b0 50 v) (h : DataW.Trod enc Try.prog w base spare held 50 v d p) :
    ∃ (A : Option Addr) (k c : Nat) (q : Cb) (ls : List Sp) (wt mi : Int), v = .agg #[.slice A k c, .int .i64 q.need, .int .i64 q.gap, .int .i64 q.doubt, .int .i64 q.joins, .int .i64 q.least, .int .i64 wt, .int .i64 mi] ∧ SpsAt w A k ls ∧ CbOk q := by
  obtain ⟨cs, rfl, hsz⟩ := okWide_struct Try.underlying50 hv
  obtain ⟨fuel, hf⟩ := h
  obtain ⟨xs, m, _, -, hl, hxl, hf⟩ := DataW.trod_struct Try.underlying50 hf
  have hsz2 : cs.size = 8 := hsz.trans (by kernel_rfl)
  have hx2 : xs.length = 3 := hxl
  obtain ⟨l⟩ := cs
  have hl2 : l.length = 8 := hsz2
  match l, hl2, xs, hx2 with
  | [c0, c1, c2, c3, c4, c5, c6, c7], _, [y0, y1, y2], _ =>
    have k1 : Try.prog.cellsOf 48 = 6 := by kernel_rfl
    have k2 : Try.prog.cellsOf 3 = 1 := by kernel_rfl
    have h0 : DataW.trod enc Try.prog w base spare held m 48 [c0, c1, c2, c3, c4, c5] = some y0 := by have := hf 0 _ rfl; simpa [Value.cells, k1] using this
    have h1 : DataW.trod enc Try.prog w base spare held m 3 [c6] = some y1 := by have := hf 1 _ rfl; simpa [Value.cells, k2] using this
    have h2 : DataW.trod enc Try.prog w base spare held m 3 [c7] = some y2 := by have := hf 2 _ rfl; simpa [Value.cells, k2] using this
    obtain ⟨A0, n0, r0, q, l0, e0, s0, hq⟩ := open_cabT _ _ _ h0
    obtain ⟨z1, e1, -, -⟩ := DataW.trod_int Try.underlying3 h1
    obtain ⟨z2, e2, -, -⟩ := DataW.trod_int Try.underlying3 h2
    simp at e0 e1 e2
    obtain ⟨e0, e3, e4, e5, e6, e7⟩ := e0
    subst e0 e1 e2 e3 e4 e5 e6 e7
    exact ⟨A0, n0, r0, q, l0, z1, z2, rfl, s0, hq⟩
end

end Go.Proofs.Ytglpgcgidkdkiaa
