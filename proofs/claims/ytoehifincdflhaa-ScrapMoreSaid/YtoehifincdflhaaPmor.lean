/- ScrapMore (layer 11): for every book and widening the statement returns true, and the arguments read as before. -/
import Derived.Test.YtoehifincdflhaaJb11
import Derived.Test.YtoehifincdflhaaMw11
namespace Go.Proofs.Ytoehifincdflhaa
open Go.RowKit Go.ChangeShapes Go.WideShapes Go.ChangeAt Go.Deep Go.Joins
open Go.Sort (grow)
set_option linter.unusedVariables false

section
variable {H : Type} {enc : TypeId × Value → H} {w : World} {base : Nat} {spare : Nat → Bool} {held : Bool}
set_option maxRecDepth 100000 in
theorem open_more {r : Reach} {b0 : Nat} {v : Value} {d : DataW H} {p : List MemPlace} (hv : Value.okWide Try.prog w r b0 53 v) (h : DataW.Trod enc Try.prog w base spare held 53 v d p) :
    ∃ a0 a1 a2 a3 a4 a5 : Int, v = .agg #[.int .i64 a0, .int .i64 a1, .int .i64 a2, .int .i64 a3, .int .i64 a4, .int .i64 a5] := by
  obtain ⟨cs, rfl, hsz⟩ := okWide_struct Try.underlying53 hv
  obtain ⟨l⟩ := cs
  have hC : Try.prog.cellsOf 53 = 6 := by kernel_rfl
  match l, hsz.trans hC with
  | [c0, c1, c2, c3, c4, c5], _ =>
    obtain ⟨fuel, hf⟩ := h
    obtain ⟨xs, m, rfl, -, hl, hxl, hg⟩ := DataW.trod_struct Try.underlying53 hf
    have hx2 : xs.length = 6 := hxl
    match xs, hx2 with
    | [y0, y1, y2, y3, y4, y5], _ =>
      have k1 : Try.prog.cellsOf 3 = 1 := by kernel_rfl
      have h0 : DataW.trod enc Try.prog w base spare held m 3 [c0] = some y0 := by have := hg 0 _ rfl; simpa [k1, Value.cells] using this
      have h1 : DataW.trod enc Try.prog w base spare held m 3 [c1] = some y1 := by have := hg 1 _ rfl; simpa [k1, Value.cells] using this
      have h2 : DataW.trod enc Try.prog w base spare held m 3 [c2] = some y2 := by have := hg 2 _ rfl; simpa [k1, Value.cells] using this
      have h3 : DataW.trod enc Try.prog w base spare held m 3 [c3] = some y3 := by have := hg 3 _ rfl; simpa [k1, Value.cells] using this
      have h4 : DataW.trod enc Try.prog w base spare held m 3 [c4] = some y4 := by have := hg 4 _ rfl; simpa [k1, Value.cells] using this
      have h5 : DataW.trod enc Try.prog w base spare held m 3 [c5] = some y5 := by have := hg 5 _ rfl; simpa [k1, Value.cells] using this
      obtain ⟨a0, e0, -, -⟩ := DataW.trod_int Try.underlying3 h0
      obtain ⟨a1, e1, -, -⟩ := DataW.trod_int Try.underlying3 h1
      obtain ⟨a2, e2, -, -⟩ := DataW.trod_int Try.underlying3 h2
      obtain ⟨a3, e3, -, -⟩ := DataW.trod_int Try.underlying3 h3
      obtain ⟨a4, e4, -, -⟩ := DataW.trod_int Try.underlying3 h4
      obtain ⟨a5, e5, -, -⟩ := DataW.trod_int Try.underlying3 h5
      simp at e0 e1 e2 e3 e4 e5
      subst e0 e1 e2 e3 e4 e5
      exact ⟨a0, a1, a2, a3, a4, a5, rfl⟩
end
set_option maxRecDepth 100000 in
theorem more_lifted (os : Os) (started : os.Started) (H : Type) (enc : TypeId × Value → H) :
    ReturnsInHanded {} Try.checked os 5 .any (Rows.scrapMoreSpec.pre6 enc Try.prog Try.f5 Rows.scrapMoreRow.domain false) (Rows.scrapMoreSpec.post enc Try.prog Try.f5 false true false false) := by
  refine returnsInHanded_of_change (C := Try.checked) jn_own started (by kernel_rfl) Try.func5
    (ChangeSpec.witness6 (enc := enc) (C := Try.checked) false ⟨#[], #[.agg #[.slice none 0 0, .slice none 0 0, .int .i64 0], .agg #[.int .i64 0, .int .i64 0, .int .i64 0, .int .i64 0, .int .i64 0, .int .i64 0]], []⟩ 8 (by kernel_rfl) (by kernel_rfl) (by kernel_rfl) (by kernel_rfl)) ?_
  intro W base args ds gs before hval0 hW hcnd _
  have hval : ∀ (j : Nat) t v, Try.f5.params[j]? = some t → args[j]? = some v → Value.okWide Try.prog W .any base t v := hval0
  have hW' := hW
  obtain ⟨p, q, hA0, hV, rfl, hfz, hnd⟩ := hW
  have hA : DataW.TrodAll enc Try.prog W 0 (fun _ => true) true Try.f5.params.toList args.toList ds p := hA0
  rw [Try.params5] at hA hval
  obtain ⟨v0, v1, d0, d1, p0, p1, rfl, rfl, rfl, h0, h1⟩ := trodAll_two hA
  obtain ⟨rfl, rfl⟩ := trodVars_none hV
  obtain ⟨a0, a1, a2, a3, a4, a5, rfl⟩ := open_more (hval 1 53 v1 rfl rfl) h1
  obtain ⟨Ap, Al, np, cp, nl, cl, wr, pl, ls, rfl, hnp, hnl, HP, HL, -⟩ := open_book (hval 0 25 v0 rfl rfl) h0
  clear hA0 hval0
  refine (More_c Ap Al np cp nl cl wr a0 a1 a2 a3 a4 a5 pl ls W hnp hnl HP HL).mono fun e W' ⟨he, hb⟩ => ?_
  subst he
  exact ⟨_, rfl, law_post jn_kids jn_full (by rw [Try.params5]; decide) (by kernel_rfl) Try.underlying4 rfl rfl rfl rfl hW' hb⟩

theorem more_over : Rows.scrapMoreRow.holds Try.pinned (OpenSpec.ofChange Rows.scrapMoreSpec) :=
  OpenClaim.holds_of_wide 5 Try.f5 rfl rfl rfl rfl rfl rfl rfl ⟨rfl, rfl, rfl, rfl, rfl⟩ rfl rfl rfl rfl rfl (by kernel_rfl) Try.func5 (by kernel_rfl)
    (of_decide_eq_true (by kernel_rfl)) (by unfold Func.isWrapper; first | (rw [if_pos (by decide +kernel)]; kernel_rfl) | (rw [if_neg (by decide +kernel)]; exact ⟨rfl, rfl⟩))
    (fun os started H enc _ => more_lifted os started H enc)

/-- THE STATEMENT -/
theorem more_holds : Rows.ScrapMoreSaid := more_over
#print axioms more_holds

end Go.Proofs.Ytoehifincdflhaa
