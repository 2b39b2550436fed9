/- TopSaw: for every input the statement returns true, and the arguments read as before. -/
import Derived.Test.YtdhlnlmhdacblaaTs49
import Derived.Test.YtdhlnlmhdacblaaTs50
namespace Go.Proofs.Ytdhlnlmhdacblaa
open Go.RowKit Go.ChangeShapes Go.WideShapes Go.ChangeAt Go.Deep Go.Joins
open Go.Sort (grow)
set_option linter.unusedVariables false
set_option linter.unusedSimpArgs false

set_option maxRecDepth 100000 in
theorem topsaw_lifted (os : Os) (started : os.Started) (H : Type) (enc : TypeId × Value → H) :
    ReturnsInHanded {} Try.checked os 5 .any (Rows.topSawSpec.pre6 enc Try.prog Try.f5 Rows.topSawRow.domain false) (Rows.topSawSpec.post enc Try.prog Try.f5 false true false false) := by
  refine returnsInHanded_of_change (C := Try.checked) jn_own started (by kernel_rfl) Try.func5
    (ChangeSpec.witness6 (enc := enc) (C := Try.checked) false ⟨#[], #[.agg #[.slice none 0 0, .int .i64 0, .slice none 0 0, .int .i64 0]], []⟩ 8 (by kernel_rfl) (by kernel_rfl) (by kernel_rfl) (by kernel_rfl)) ?_
  intro W base args ds gs before hval0 hW hcnd _
  have hval : ∀ (j : Nat) t v, Try.f5.params[j]? = some t → args[j]? = some v → Value.okWide Try.prog W .any base t v := hval0
  have hW' := hW
  obtain ⟨p, q, hA0, hV, rfl, hfz, hnd⟩ := hW
  have hA : DataW.TrodAll enc Try.prog W 0 (fun _ => true) true Try.f5.params.toList args.toList ds p := hA0
  rw [Try.params5] at hA hval
  obtain ⟨v0, d0, rfl, rfl, h0⟩ := trodAll_one hA
  obtain ⟨rfl, rfl⟩ := trodVars_none hV
  obtain ⟨Ab0, Ap0, nb0, cb0, np0, cp0, kf0, wr0, bs0, ms0, ps0, rfl, HB0, HP0⟩ := open_store (hval 0 25 v0 rfl rfl) h0
  clear hA0 hval0
  refine (TopSaw_law_c Ab0 Ap0 nb0 cb0 np0 cp0 kf0 wr0 bs0 ms0 ps0 W HB0 HP0).mono fun e W' ⟨he, hb⟩ => ?_
  subst he
  exact ⟨_, rfl, law_post jn_kids jn_full (by rw [Try.params5]; decide) (by kernel_rfl) Try.underlying4 rfl rfl rfl rfl hW' hb⟩

theorem topsaw_over : Rows.topSawRow.holds Try.pinned (OpenSpec.ofChange Rows.topSawSpec) :=
  OpenClaim.holds_of_wide 5 Try.f5 rfl rfl rfl rfl rfl rfl rfl ⟨rfl, rfl, rfl, rfl, rfl⟩ rfl rfl rfl rfl rfl (by kernel_rfl) Try.func5 (by kernel_rfl)
    (of_decide_eq_true (by kernel_rfl)) (by unfold Func.isWrapper; first | (rw [if_pos (by decide +kernel)]; kernel_rfl) | (rw [if_neg (by decide +kernel)]; exact ⟨rfl, rfl⟩))
    (fun os started H enc _ => topsaw_lifted os started H enc)

/-- THE STATEMENT -/
theorem topsaw_holds : Rows.TopSawSaid := topsaw_over
#print axioms topsaw_holds

end Go.Proofs.Ytdhlnlmhdacblaa
