/- RepairsBack: for every input the statement returns true, and the arguments read as before. -/
import Derived.Test.YthjjakhmbgnnnaaPbk
import Derived.Test.YthjjakhmbgnnnaaJb7
namespace Go.Proofs.Ythjjakhmbgnnnaa
open Go.RowKit Go.ChangeShapes Go.WideShapes Go.ChangeAt Go.Deep Go.Joins
open Go.Sort (grow)
set_option linter.unusedVariables false

set_option maxRecDepth 100000 in
theorem back7_lifted (os : Os) (started : os.Started) (H : Type) (enc : TypeId × Value → H) :
    ReturnsInHanded {} Try.checked os 11 .any (Rows.repairsBackSpec.pre6 enc Try.prog Try.f11 Rows.repairsBackRow.domain false) (Rows.repairsBackSpec.post enc Try.prog Try.f11 false true false false) := by
  refine returnsInHanded_of_change (C := Try.checked) jn_own started (by kernel_rfl) Try.func11
    (ChangeSpec.witness6 (enc := enc) (C := Try.checked) false ⟨#[], #[.agg #[.slice none 0 0, .int .i64 0, .int .i64 0, .int .i64 0, .int .i64 0, .int .i64 0], .slice none 0 0, .agg #[.int .i64 0, .int .i64 0, .int .i64 0]], []⟩ 8 (by kernel_rfl) (by kernel_rfl) (by kernel_rfl) (by kernel_rfl)) ?_
  intro W base args ds gs before hval0 hW hcnd _
  have hval : ∀ (j : Nat) t v, Try.f11.params[j]? = some t → args[j]? = some v → Value.okWide Try.prog W .any base t v := hval0
  have hW' := hW
  obtain ⟨p, q, hA0, hV, rfl, hfz, hnd⟩ := hW
  have hA : DataW.TrodAll enc Try.prog W 0 (fun _ => true) true Try.f11.params.toList args.toList ds p := hA0
  rw [Try.params11] at hA hval
  obtain ⟨v0, v1, v2, d0, d1, d2, p0, p1, p2, rfl, rfl, rfl, h0, h1, h2⟩ := trodAll_three hA
  obtain ⟨rfl, rfl⟩ := trodVars_none hV
  obtain ⟨x2, y2, z2, rfl, -, -, -⟩ := open_ask (hval 2 28 v2 rfl rfl) h2
  obtain ⟨B1, m1, d1, l1, rfl, hm1, HX1⟩ := open_ints (hval 1 48 v1 rfl rfl) h1
  obtain ⟨A0, n0, c0, q0, ls0, rfl, hn0, HL0, hq0⟩ := open_cable (hval 0 24 v0 rfl rfl) h0
  clear hA0 hval0
  refine (BackLaw_c A0 B1 n0 c0 m1 d1 q0 ls0 l1 x2 y2 z2 W hq0 HL0 hn0 HX1 hm1).mono fun e W' ⟨he, hb⟩ => ?_
  subst he
  exact ⟨_, rfl, law_post jn_kids jn_full (by rw [Try.params11]; decide) (by kernel_rfl) Try.underlying4 rfl rfl rfl rfl hW' hb⟩

theorem back7_over : Rows.repairsBackRow.holds Try.pinned (OpenSpec.ofChange Rows.repairsBackSpec) :=
  OpenClaim.holds_of_wide 11 Try.f11 rfl rfl rfl rfl rfl rfl rfl ⟨rfl, rfl, rfl, rfl, rfl⟩ rfl rfl rfl rfl rfl (by kernel_rfl) Try.func11 (by kernel_rfl)
    (of_decide_eq_true (by kernel_rfl)) (by unfold Func.isWrapper; first | (rw [if_pos (by decide +kernel)]; kernel_rfl) | (rw [if_neg (by decide +kernel)]; exact ⟨rfl, rfl⟩))
    (fun os started H enc _ => back7_lifted os started H enc)

/-- THE STATEMENT -/
theorem back7_holds : Rows.RepairsBackSaid := back7_over
#print axioms back7_holds

end Go.Proofs.Ythjjakhmbgnnnaa
