/- TopYard: for every input the statement returns true, and the arguments read as before. -/
import Derived.Test.YtcinhibmohkeiaaQy48
import Derived.Test.YtcinhibmohkeiaaQy50
namespace Go.Proofs.Ytcinhibmohkeiaa
open Go.RowKit Go.ChangeShapes Go.WideShapes Go.ChangeAt Go.Deep Go.Joins
open Go.Sort (grow)
set_option linter.unusedVariables false
set_option linter.unusedSimpArgs false

set_option maxRecDepth 100000 in
theorem topyard_lifted (os : Os) (started : os.Started) (H : Type) (enc : TypeId × Value → H) :
    ReturnsInHanded {} Try.checked os 3 .any (Rows.topYardSpec.pre6 enc Try.prog Try.f3 Rows.topYardRow.domain false) (Rows.topYardSpec.post enc Try.prog Try.f3 false true false false) := by
  refine returnsInHanded_of_change (C := Try.checked) jn_own started (by kernel_rfl) Try.func3
    (ChangeSpec.witness6 (enc := enc) (C := Try.checked) false ⟨#[], #[.agg #[.slice none 0 0, .int .i64 0, .int .i64 0, .int .i64 0, .slice none 0 0, .int .i64 0], .agg #[.slice none 0 0, .int .i64 0, .int .i64 0, .int .i64 0, .slice none 0 0, .int .i64 0, .slice none 0 0, .int .i64 0, .slice none 0 0, .int .i64 0], .agg #[.int .i64 0, .int .i64 0, .int .i64 0]], []⟩ 8 (by kernel_rfl) (by kernel_rfl) (by kernel_rfl) (by kernel_rfl)) ?_
  intro W base args ds gs before hval0 hW hcnd _
  have hval : ∀ (j : Nat) t v, Try.f3.params[j]? = some t → args[j]? = some v → Value.okWide Try.prog W .any base t v := hval0
  have hW' := hW
  obtain ⟨p, q, hA0, hV, rfl, hfz, hnd⟩ := hW
  have hA : DataW.TrodAll enc Try.prog W 0 (fun _ => true) true Try.f3.params.toList args.toList ds p := hA0
  rw [Try.params3] at hA hval
  obtain ⟨v0, v1, v2, d0, d1, d2, p0, p1, p2, rfl, rfl, rfl, h0, h1, h2⟩ := trodAll_three hA
  obtain ⟨rfl, rfl⟩ := trodVars_none hV
  obtain ⟨wt2, mi2, nom2, rfl⟩ := open_pull5 (hval 2 34 v2 rfl rfl) h2
  obtain ⟨Al1, nl1, cl1, wa1, la1, lb1, Ab1, nb1, cb1, wrg1, lv1, bl1, SA1, ns1, sc1, lk1, us1, SB1, nt1, sd1, lj1, ut1, rfl, HL1, HB1, HS1, HT1⟩ := open_pair5 (hval 1 32 v1 rfl rfl) h1
  obtain ⟨Al0, nl0, cl0, wa0, la0, lb0, Ab0, nb0, cb0, wrg0, lv0, bl0, rfl, HL0, HB0⟩ := open_machine (hval 0 27 v0 rfl rfl) h0
  clear hA0 hval0
  refine (topyard_c Al0 nl0 cl0 wa0 la0 lb0 Ab0 nb0 cb0 wrg0 lv0 bl0 Al1 nl1 cl1 wa1 la1 lb1 Ab1 nb1 cb1 wrg1 lv1 bl1 SA1 ns1 sc1 us1 lk1 SB1 nt1 sd1 ut1 lj1 wt2 mi2 nom2 W HL0 HB0 HL1 HB1 HS1 HT1).mono fun e W' ⟨he, hb⟩ => ?_
  subst he
  exact ⟨_, rfl, law_post jn_kids jn_full (by rw [Try.params3]; decide) (by kernel_rfl) Try.underlying4 rfl rfl rfl rfl hW' hb⟩

theorem topyard_over : Rows.topYardRow.holds Try.pinned (OpenSpec.ofChange Rows.topYardSpec) :=
  OpenClaim.holds_of_wide 3 Try.f3 rfl rfl rfl rfl rfl rfl rfl ⟨rfl, rfl, rfl, rfl, rfl⟩ rfl rfl rfl rfl rfl (by kernel_rfl) Try.func3 (by kernel_rfl)
    (of_decide_eq_true (by kernel_rfl)) (by unfold Func.isWrapper; first | (rw [if_pos (by decide +kernel)]; kernel_rfl) | (rw [if_neg (by decide +kernel)]; exact ⟨rfl, rfl⟩))
    (fun os started H enc _ => topyard_lifted os started H enc)

/-- THE STATEMENT -/
theorem topyard_holds : Rows.TopYardSaid := topyard_over
#print axioms topyard_holds

end Go.Proofs.Ytcinhibmohkeiaa
