/- StretchLengths: for every input the statement returns true, and the arguments read as before. -/
import Derived.Test.YtmmgkmdfecnkdaaQa48
import Derived.Test.YtmmgkmdfecnkdaaQa50
namespace Go.Proofs.Ytmmgkmdfecnkdaa
open Go.RowKit Go.ChangeShapes Go.WideShapes Go.ChangeAt Go.Deep Go.Joins
open Go.Sort (grow)
set_option linter.unusedVariables false
set_option linter.unusedSimpArgs false

set_option maxRecDepth 100000 in
theorem strlen4_lifted (os : Os) (started : os.Started) (H : Type) (enc : TypeId × Value → H) :
    ReturnsInHanded {} Try.checked os 3 .any (Rows.stretchLengthsSpec.pre6 enc Try.prog Try.f3 Rows.stretchLengthsRow.domain false) (Rows.stretchLengthsSpec.post enc Try.prog Try.f3 false true false false) := by
  refine returnsInHanded_of_change (C := Try.checked) jn_own started (by kernel_rfl) Try.func3
    (ChangeSpec.witness6 (enc := enc) (C := Try.checked) false ⟨#[], #[.agg #[.int .i64 0, .int .i64 0, .int .i64 0, .slice none 0 0, .slice none 0 0, .int .i64 0], .agg #[.int .i64 0, .int .i64 0, .int .i64 0]], []⟩ 8 (by kernel_rfl) (by kernel_rfl) (by kernel_rfl) (by kernel_rfl)) ?_
  intro W base args ds gs before hval0 hW hcnd _
  have hval : ∀ (j : Nat) t v, Try.f3.params[j]? = some t → args[j]? = some v → Value.okWide Try.prog W .any base t v := hval0
  have hW' := hW
  obtain ⟨p, q, hA0, hV, rfl, hfz, hnd⟩ := hW
  have hA : DataW.TrodAll enc Try.prog W 0 (fun _ => true) true Try.f3.params.toList args.toList ds p := hA0
  rw [Try.params3] at hA hval
  obtain ⟨v0, v1, d0, d1, p0, p1, rfl, rfl, rfl, h0, h1⟩ := trodAll_two hA
  obtain ⟨rfl, rfl⟩ := trodVars_none hV
  obtain ⟨e10, e11, e12, rfl⟩ := open_ask4 (hval 1 29 v1 rfl rfl) h1
  obtain ⟨Ar0, nr0, cr0, Ad0, nd0, cd0, q0, rfl, HM0⟩ := open_pull (hval 0 27 v0 rfl rfl) h0
  clear hA0 hval0
  refine (strlengths4_c Ar0 nr0 cr0 Ad0 nd0 cd0 q0 e10 e11 e12 W HM0).mono fun e W' ⟨he, hb⟩ => ?_
  subst he
  exact ⟨_, rfl, law_post jn_kids jn_full (by rw [Try.params3]; decide) (by kernel_rfl) Try.underlying4 rfl rfl rfl rfl hW' hb⟩

theorem strlen4_over : Rows.stretchLengthsRow.holds Try.pinned (OpenSpec.ofChange Rows.stretchLengthsSpec) :=
  OpenClaim.holds_of_wide 3 Try.f3 rfl rfl rfl rfl rfl rfl rfl ⟨rfl, rfl, rfl, rfl, rfl⟩ rfl rfl rfl rfl rfl (by kernel_rfl) Try.func3 (by kernel_rfl)
    (of_decide_eq_true (by kernel_rfl)) (by unfold Func.isWrapper; first | (rw [if_pos (by decide +kernel)]; kernel_rfl) | (rw [if_neg (by decide +kernel)]; exact ⟨rfl, rfl⟩))
    (fun os started H enc _ => strlen4_lifted os started H enc)

/-- THE STATEMENT -/
theorem strlen4_holds : Rows.StretchLengthsSaid := strlen4_over
#print axioms strlen4_holds

end Go.Proofs.Ytmmgkmdfecnkdaa
