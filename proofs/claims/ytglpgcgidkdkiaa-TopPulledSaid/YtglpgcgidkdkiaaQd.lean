/- TopPulled: for every input the statement returns true, and the arguments read as before. -/
import Derived.Test.YtglpgcgidkdkiaaQd48
import Derived.Test.YtglpgcgidkdkiaaQd50
namespace Go.Proofs.Ytglpgcgidkdkiaa
open Go.RowKit Go.ChangeShapes Go.WideShapes Go.ChangeAt Go.Deep Go.Joins
open Go.Sort (grow)
set_option linter.unusedVariables false
set_option linter.unusedSimpArgs false

set_option maxRecDepth 100000 in
theorem toppul_lifted (os : Os) (started : os.Started) (H : Type) (enc : TypeId × Value → H) :
    ReturnsInHanded {} Try.checked os 4 .any (Rows.topPulledSpec.pre6 enc Try.prog Try.f4 Rows.topPulledRow.domain false) (Rows.topPulledSpec.post enc Try.prog Try.f4 false true false false) := by
  refine returnsInHanded_of_change (C := Try.checked) jn_own started (by kernel_rfl) Try.func4
    (ChangeSpec.witness6 (enc := enc) (C := Try.checked) false ⟨#[], #[.agg #[.slice none 0 0, .int .i64 0, .int .i64 0, .int .i64 0, .slice none 0 0, .int .i64 0], .agg #[.slice none 0 0, .int .i64 0], .agg #[.slice none 0 0, .int .i64 0, .int .i64 0, .int .i64 0, .int .i64 0, .int .i64 0, .int .i64 0, .int .i64 0]], []⟩ 8 (by kernel_rfl) (by kernel_rfl) (by kernel_rfl) (by kernel_rfl)) ?_
  intro W base args ds gs before hval0 hW hcnd _
  have hval : ∀ (j : Nat) t v, Try.f4.params[j]? = some t → args[j]? = some v → Value.okWide Try.prog W .any base t v := hval0
  have hW' := hW
  obtain ⟨p, q, hA0, hV, rfl, hfz, hnd⟩ := hW
  have hA : DataW.TrodAll enc Try.prog W 0 (fun _ => true) true Try.f4.params.toList args.toList ds p := hA0
  rw [Try.params4] at hA hval
  obtain ⟨v0, v1, v2, d0, d1, d2, p0, p1, p2, rfl, rfl, rfl, h0, h1, h2⟩ := trodAll_three hA
  obtain ⟨rfl, rfl⟩ := trodVars_none hV
  obtain ⟨A2, n2, c2, q2, ls2, wt2, mi2, rfl, HC2, hq2⟩ := open_trial (hval 2 50 v2 rfl rfl) h2
  obtain ⟨SA1, ns1, sc1, lk1, us1, rfl, HS1⟩ := open_setting (hval 1 45 v1 rfl rfl) h1
  obtain ⟨Al0, nl0, cl0, wa0, la0, lb0, Ab0, nb0, cb0, wrg0, lv0, bl0, rfl, HL0, HB0⟩ := open_machine (hval 0 41 v0 rfl rfl) h0
  clear hA0 hval0
  refine (toppulled_c Al0 nl0 cl0 wa0 la0 lb0 Ab0 nb0 cb0 wrg0 lv0 bl0 SA1 ns1 sc1 us1 lk1 A2 n2 c2 q2 ls2 wt2 mi2 W HL0 HB0 HS1 hq2 HC2).mono fun e W' ⟨he, hb⟩ => ?_
  subst he
  exact ⟨_, rfl, law_post jn_kids jn_full (by rw [Try.params4]; decide) (by kernel_rfl) Try.underlying4 rfl rfl rfl rfl hW' hb⟩

theorem toppul_over : Rows.topPulledRow.holds Try.pinned (OpenSpec.ofChange Rows.topPulledSpec) :=
  OpenClaim.holds_of_wide 4 Try.f4 rfl rfl rfl rfl rfl rfl rfl ⟨rfl, rfl, rfl, rfl, rfl⟩ rfl rfl rfl rfl rfl (by kernel_rfl) Try.func4 (by kernel_rfl)
    (of_decide_eq_true (by kernel_rfl)) (by unfold Func.isWrapper; first | (rw [if_pos (by decide +kernel)]; kernel_rfl) | (rw [if_neg (by decide +kernel)]; exact ⟨rfl, rfl⟩))
    (fun os started H enc _ => toppul_lifted os started H enc)

/-- THE STATEMENT -/
theorem toppul_holds : Rows.TopPulledSaid := toppul_over
#print axioms toppul_holds

end Go.Proofs.Ytglpgcgidkdkiaa
