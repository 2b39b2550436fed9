/- BarsBetter: for every input the statement returns true, and the arguments read as before. -/
import Derived.Test.YtmopnbijfcamjaaPbt3
import Derived.Test.YtmopnbijfcamjaaJb1
namespace Go.Proofs.Ytmopnbijfcamjaa
open Go.RowKit Go.ChangeShapes Go.WideShapes Go.ChangeAt Go.Deep Go.Joins
open Go.Sort (grow)
set_option linter.unusedVariables false

set_option maxRecDepth 100000 in
theorem better1_lifted (os : Os) (started : os.Started) (H : Type) (enc : TypeId × Value → H) :
    ReturnsInHanded {} Try.checked os 8 .any (Rows.barsBetterSpec.pre6 enc Try.prog Try.f8 Rows.barsBetterRow.domain false) (Rows.barsBetterSpec.post enc Try.prog Try.f8 false true false false) := by
  refine returnsInHanded_of_change (C := Try.checked) jn_own started (by kernel_rfl) Try.func8
    (ChangeSpec.witness6 (enc := enc) (C := Try.checked) false ⟨#[], #[.agg #[.slice none 0 0, .int .i64 0, .slice none 0 0, .int .i64 0], .agg #[.int .i64 0, .int .i64 0, .int .i64 0], .agg #[.int .i64 0, .int .i64 0, .int .i64 0, .int .i64 0]], []⟩ 8 (by kernel_rfl) (by kernel_rfl) (by kernel_rfl) (by kernel_rfl)) ?_
  intro W base args ds gs before hval0 hW hcnd _
  have hval : ∀ (j : Nat) t v, Try.f8.params[j]? = some t → args[j]? = some v → Value.okWide Try.prog W .any base t v := hval0
  have hW' := hW
  obtain ⟨p, q, hA0, hV, rfl, hfz, hnd⟩ := hW
  have hA : DataW.TrodAll enc Try.prog W 0 (fun _ => true) true Try.f8.params.toList args.toList ds p := hA0
  rw [Try.params8] at hA hval
  obtain ⟨v0, v1, v2, d0, d1, d2, p0, p1, p2, rfl, rfl, rfl, h0, h1, h2⟩ := trodAll_three hA
  obtain ⟨rfl, rfl⟩ := trodVars_none hV
  obtain ⟨e20, e21, e22, e23, rfl⟩ := open_ask1 (hval 2 49 v2 rfl rfl) h2
  obtain ⟨e10, e11, e12, rfl⟩ := open_better (hval 1 63 v1 rfl rfl) h1
  obtain ⟨Ab0, Ap0, nb0, cb0, np0, cp0, kf0, wr0, bs0, ms0, ps0, rfl, HB0, HP0⟩ := open_store (hval 0 25 v0 rfl rfl) h0
  clear hA0 hval0
  refine (Better_law_c Ab0 Ap0 nb0 cb0 np0 cp0 kf0 wr0 e10 e11 e12 e20 e21 e22 e23 bs0 ms0 ps0 W HB0 HP0).mono fun e W' ⟨he, hb⟩ => ?_
  subst he
  exact ⟨_, rfl, law_post jn_kids jn_full (by rw [Try.params8]; decide) (by kernel_rfl) Try.underlying4 rfl rfl rfl rfl hW' hb⟩

theorem better1_over : Rows.barsBetterRow.holds Try.pinned (OpenSpec.ofChange Rows.barsBetterSpec) :=
  OpenClaim.holds_of_wide 8 Try.f8 rfl rfl rfl rfl rfl rfl rfl ⟨rfl, rfl, rfl, rfl, rfl⟩ rfl rfl rfl rfl rfl (by kernel_rfl) Try.func8 (by kernel_rfl)
    (of_decide_eq_true (by kernel_rfl)) (by unfold Func.isWrapper; first | (rw [if_pos (by decide +kernel)]; kernel_rfl) | (rw [if_neg (by decide +kernel)]; exact ⟨rfl, rfl⟩))
    (fun os started H enc _ => better1_lifted os started H enc)

/-- THE STATEMENT -/
theorem better1_holds : Rows.BarsBetterSaid := better1_over
#print axioms better1_holds

end Go.Proofs.Ytmopnbijfcamjaa
