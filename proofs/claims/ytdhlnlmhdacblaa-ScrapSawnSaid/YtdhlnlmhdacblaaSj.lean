/- ScrapSawn: for every input the statement returns true, and the arguments read as before. -/
import Derived.Test.YtdhlnlmhdacblaaSj49
import Derived.Test.YtdhlnlmhdacblaaSj50
namespace Go.Proofs.Ytdhlnlmhdacblaa
open Go.RowKit Go.ChangeShapes Go.WideShapes Go.ChangeAt Go.Deep Go.Joins
open Go.Sort (grow)
set_option linter.unusedVariables false
set_option linter.unusedSimpArgs false

set_option maxRecDepth 100000 in
theorem sawn11_lifted (os : Os) (started : os.Started) (H : Type) (enc : TypeId × Value → H) :
    ReturnsInHanded {} Try.checked os 3 .any (Rows.scrapSawnSpec.pre6 enc Try.prog Try.f3 Rows.scrapSawnRow.domain false) (Rows.scrapSawnSpec.post enc Try.prog Try.f3 false true false false) := by
  refine returnsInHanded_of_change (C := Try.checked) jn_own started (by kernel_rfl) Try.func3
    (ChangeSpec.witness6 (enc := enc) (C := Try.checked) false ⟨#[], #[.agg #[.slice none 0 0, .int .i64 0, .slice none 0 0, .int .i64 0]], []⟩ 8 (by kernel_rfl) (by kernel_rfl) (by kernel_rfl) (by kernel_rfl)) ?_
  intro W base args ds gs before hval0 hW hcnd _
  have hval : ∀ (j : Nat) t v, Try.f3.params[j]? = some t → args[j]? = some v → Value.okWide Try.prog W .any base t v := hval0
  have hW' := hW
  obtain ⟨p, q, hA0, hV, rfl, hfz, hnd⟩ := hW
  have hA : DataW.TrodAll enc Try.prog W 0 (fun _ => true) true Try.f3.params.toList args.toList ds p := hA0
  rw [Try.params3] at hA hval
  obtain ⟨v0, d0, rfl, rfl, h0⟩ := trodAll_one hA
  obtain ⟨rfl, rfl⟩ := trodVars_none hV
  obtain ⟨Ab0, Ap0, nb0, cb0, np0, cp0, kf0, wr0, bs0, ms0, ps0, rfl, HB0, HP0⟩ := open_store (hval 0 25 v0 rfl rfl) h0
  clear hA0 hval0
  refine (Saw_law_c Ab0 Ap0 nb0 cb0 np0 cp0 kf0 wr0 bs0 ms0 ps0 W HB0 HP0).mono fun e W' ⟨he, hb⟩ => ?_
  subst he
  exact ⟨_, rfl, law_post jn_kids jn_full (by rw [Try.params3]; decide) (by kernel_rfl) Try.underlying4 rfl rfl rfl rfl hW' hb⟩

theorem sawn11_over : Rows.scrapSawnRow.holds Try.pinned (OpenSpec.ofChange Rows.scrapSawnSpec) :=
  OpenClaim.holds_of_wide 3 Try.f3 rfl rfl rfl rfl rfl rfl rfl ⟨rfl, rfl, rfl, rfl, rfl⟩ rfl rfl rfl rfl rfl (by kernel_rfl) Try.func3 (by kernel_rfl)
    (of_decide_eq_true (by kernel_rfl)) (by unfold Func.isWrapper; first | (rw [if_pos (by decide +kernel)]; kernel_rfl) | (rw [if_neg (by decide +kernel)]; exact ⟨rfl, rfl⟩))
    (fun os started H enc _ => sawn11_lifted os started H enc)

/-- THE STATEMENT -/
theorem sawn11_holds : Rows.ScrapSawnSaid := sawn11_over
#print axioms sawn11_holds

end Go.Proofs.Ytdhlnlmhdacblaa
