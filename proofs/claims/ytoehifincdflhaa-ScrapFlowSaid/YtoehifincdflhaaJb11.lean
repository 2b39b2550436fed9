/- A book, an account that came in as an argument (layer 11). -/
import Derived.Test.YtoehifincdflhaaJn
import Derived.Test.YtoehifincdflhaaCp11
namespace Go.Proofs.Ytoehifincdflhaa
open Go.RowKit Go.ChangeShapes Go.WideShapes Go.ChangeAt Go.Deep Go.Joins
open Go.Sort (grow)
set_option linter.unusedVariables false

section
variable {H : Type} {enc : TypeId × Value → H} {w : World} {base : Nat} {spare : Nat → Bool} {held : Bool}
set_option maxRecDepth 100000 in
theorem open_span (n : Nat) (cs : List Value) (x : DataW H × List MemPlace) (h : DataW.trod enc Try.prog w base spare held n 31 cs = some x) : ∃ a : Sp, cs = encS a := by
  obtain ⟨xs, m, rfl, -, hl, hxl, hf⟩ := DataW.trod_struct Try.underlying31 h
  have hl2 : cs.length = 2 := hl.trans (by kernel_rfl)
  have hx2 : xs.length = 2 := hxl
  match cs, hl2, xs, hx2 with
  | [c0, c1], _, [y0, y1], _ =>
    have k1 : Try.prog.cellsOf 3 = 1 := by kernel_rfl
    have h0 : DataW.trod enc Try.prog w base spare held m 3 [c0] = some y0 := by have := hf 0 _ rfl; simpa [k1] using this
    have h1 : DataW.trod enc Try.prog w base spare held m 3 [c1] = some y1 := by have := hf 1 _ rfl; simpa [k1] using this
    obtain ⟨a, ha, -, -⟩ := DataW.trod_int Try.underlying3 h0
    obtain ⟨b, hb, -, -⟩ := DataW.trod_int Try.underlying3 h1
    simp at ha hb
    subst ha hb
    exact ⟨⟨a, b⟩, rfl⟩
set_option maxRecDepth 100000 in
theorem open_line (n : Nat) (cs : List Value) (x : DataW H × List MemPlace) (h : DataW.trod enc Try.prog w base spare held n 33 cs = some x) : ∃ a : Ln, cs = encL a := by
  obtain ⟨xs, m, rfl, -, hl, hxl, hf⟩ := DataW.trod_struct Try.underlying33 h
  have hl2 : cs.length = 6 := hl.trans (by kernel_rfl)
  have hx2 : xs.length = 4 := hxl
  match cs, hl2, xs, hx2 with
  | [c0, c1, c2, c3, c4, c5], _, [y0, y1, y2, y3], _ =>
    have k1 : Try.prog.cellsOf 3 = 1 := by kernel_rfl
    have k2 : Try.prog.cellsOf 31 = 2 := by kernel_rfl
    have h0 : DataW.trod enc Try.prog w base spare held m 3 [c0] = some y0 := by have := hf 0 _ rfl; simpa [k1] using this
    have h1 : DataW.trod enc Try.prog w base spare held m 3 [c1] = some y1 := by have := hf 1 _ rfl; simpa [k1] using this
    have h2 : DataW.trod enc Try.prog w base spare held m 31 [c2, c3] = some y2 := by have := hf 2 _ rfl; simpa [k2] using this
    have h3 : DataW.trod enc Try.prog w base spare held m 31 [c4, c5] = some y3 := by have := hf 3 _ rfl; simpa [k2] using this
    obtain ⟨a, ha, -, -⟩ := DataW.trod_int Try.underlying3 h0
    obtain ⟨b, hb, -, -⟩ := DataW.trod_int Try.underlying3 h1
    obtain ⟨c, hc⟩ := open_span _ _ _ h2
    obtain ⟨d, hd⟩ := open_span _ _ _ h3
    simp [encS] at ha hb hc hd
    obtain ⟨rfl, rfl⟩ := hc
    obtain ⟨rfl, rfl⟩ := hd
    subst ha hb
    exact ⟨⟨a, b, c, d⟩, rfl⟩
set_option maxRecDepth 100000 in
theorem open_book {r : Reach} {b0 : Nat} {v : Value} {d : DataW H} {p : List MemPlace} (hv : Value.okWide Try.prog w r b0 25 v) (h : DataW.Trod enc Try.prog w base spare held 25 v d p) :
    ∃ (Ap Al : Option Addr) (np cp nl cl : Nat) (wr : Int) (pl : List Sp) (ls : List Ln), v = .agg #[.slice Ap np cp, .slice Al nl cl, .int .i64 wr] ∧ np ≤ 9223372036854775807 ∧ nl ≤ 9223372036854775807 ∧ SpsAt w Ap np pl ∧ LnsAt w Al nl ls ∧ (-9223372036854775808 ≤ wr ∧ wr ≤ 9223372036854775807) := by
  obtain ⟨v0, v1, v2, y0, y1, y2, n, rfl, -, -, h0, h1, h2⟩ := open_agg3 Try.underlying25 (by kernel_rfl) (by kernel_rfl) hv h
  obtain ⟨Ap, np, cp, pl, e0, m0, s0⟩ := open_sl encS 2 ⟨0, 0⟩ Try.underlying22 (by kernel_rfl) (by omega) encS_len open_span h0
  obtain ⟨Al, nl, cl, ls, e1, m1, s1⟩ := open_sl encL 6 ⟨0, 0, ⟨0, 0⟩, ⟨0, 0⟩⟩ Try.underlying23 (by kernel_rfl) (by omega) encL_len open_line h1
  obtain ⟨wr, e2, -, hwf⟩ := DataW.trod_int Try.underlying3 h2
  simp at e0 e1 e2
  subst e0 e1 e2
  unfold maxLen at m0 m1
  simp only [Lit.wf, Bool.and_eq_true, decide_eq_true_eq] at hwf
  have i1 : IntKind.i64.min = -9223372036854775808 := rfl
  have i2 : IntKind.i64.max = 9223372036854775807 := rfl
  exact ⟨Ap, Al, np, cp, nl, cl, wr, pl, ls, rfl, m0, m1, s0, s1, by omega⟩
set_option maxRecDepth 100000 in
theorem open_int1 (n : Nat) (cs : List Value) (x : DataW H × List MemPlace) (h : DataW.trod enc Try.prog w base spare held n 3 cs = some x) : ∃ a : Int, cs = encI a := by
  obtain ⟨a, ha, -, -⟩ := DataW.trod_int Try.underlying3 h
  exact ⟨a, ha⟩
set_option maxRecDepth 100000 in
theorem open_plan {r : Reach} {b0 : Nat} {v : Value} {d : DataW H} {p : List MemPlace} (hv : Value.okWide Try.prog w r b0 41 v) (h : DataW.Trod enc Try.prog w base spare held 41 v d p) :
    ∃ (Aw As : Option Addr) (nw cw ns cs : Nat) (ws ss : List Int), v = .agg #[.slice Aw nw cw, .slice As ns cs] ∧ nw ≤ 9223372036854775807 ∧ ns ≤ 9223372036854775807 ∧ IntsAt w Aw nw ws ∧ IntsAt w As ns ss := by
  obtain ⟨v0, v1, y0, y1, n, rfl, -, -, h0, h1⟩ := open_agg2 Try.underlying41 (by kernel_rfl) (by kernel_rfl) hv h
  obtain ⟨Aw, nw, cw, ws, e0, m0, s0⟩ := open_sl encI 1 0 Try.underlying39 (by kernel_rfl) (by omega) encI_len open_int1 h0
  obtain ⟨As, ns, cs, ss, e1, m1, s1⟩ := open_sl encI 1 0 Try.underlying39 (by kernel_rfl) (by omega) encI_len open_int1 h1
  simp at e0 e1
  subst e0 e1
  unfold maxLen at m0 m1
  exact ⟨Aw, As, nw, cw, ns, cs, ws, ss, rfl, m0, m1, s0, s1⟩
end

end Go.Proofs.Ytoehifincdflhaa
