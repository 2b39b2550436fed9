/- ScrapThrough (layer 11): for every book and line the statement returns true, and the arguments read as before. -/
import Derived.Test.YtoehifincdflhaaJb11
import Derived.Test.YtoehifincdflhaaTl11
namespace Go.Proofs.Ytoehifincdflhaa
open Go.RowKit Go.ChangeShapes Go.WideShapes Go.ChangeAt Go.Deep Go.Joins
open Go.Sort (grow)
set_option linter.unusedVariables false

set_option maxRecDepth 100000 in
set_option maxHeartbeats 1600000 in
theorem Through_any (Ap Al : Option Addr) (np cp nl cl : Nat) (wrg line : Int) (pl : List Sp) (ls : List Ln) (w : World) (hp : np ≤ 9223372036854775807) (hl : nl ≤ 9223372036854775807) (HP : SpsAt w Ap np pl) (HL : LnsAt w Al nl ls) :
    Calls Try.prog 3 #[.agg #[.slice Ap np cp, .slice Al nl cl, .int .i64 wrg], .int .i64 line] w
      fun e w' => e = .returned (.bool true) ∧ Below w.heap.size w w' := by
  by_cases hbig : 40 < np ∨ 40 < nl
  · clear HP HL
    go_enter Try.func3, Try.ntmps3
    go_wp2_with (first | (go_at_call 11; refine (readyBig_c Ap Al np cp nl cl wrg _ hbig hp hl).mono ?_; (rintro e w1 ⟨rfl, hb1⟩; obtain ⟨hc1, hf1⟩ := bcell hb1; have zs1 := hb1.size; (try simp at zs1); have n1_0 : w.heap.size < w1.heap.size := (by omega))) | (go_at_call 13; refine (works_c _).mono ?_; (rintro e w2 ⟨rfl, hb2⟩)))
    go_ret
    exact ⟨rfl, by (repeat first | with_reducible assumption | with_reducible exact Below.refl _ _ | (with_reducible refine Below.alloc ?_ ?side _; case side => (first | omega | (with_reducible exact Below.size (by assumption)) | (simp; done) | (simp; omega))) | (with_reducible refine Below.setCell ?_ ?side _; case side => (first | omega | (with_reducible exact Below.size (by assumption)) | (simp; done) | (simp; omega))) | with_reducible refine Below.drew ?_ | with_reducible refine below_drewN ?_ _ | (with_reducible refine below_step (by assumption) ?side ?_; case side => (first | omega | (with_reducible exact Below.size (by assumption)) | (simp; done) | (simp; omega))))⟩
  · exact Through_c Ap Al np cp nl cl wrg line pl ls w (by omega) (by omega) HP HL

set_option maxRecDepth 100000 in
theorem through_lifted (os : Os) (started : os.Started) (H : Type) (enc : TypeId × Value → H) :
    ReturnsInHanded {} Try.checked os 3 .any (Rows.scrapThroughSpec.pre6 enc Try.prog Try.f3 Rows.scrapThroughRow.domain false) (Rows.scrapThroughSpec.post enc Try.prog Try.f3 false true false false) := by
  refine returnsInHanded_of_change (C := Try.checked) jn_own started (by kernel_rfl) Try.func3
    (ChangeSpec.witness6 (enc := enc) (C := Try.checked) false ⟨#[], #[.agg #[.slice none 0 0, .slice none 0 0, .int .i64 0], .int .i64 0], []⟩ 8 (by kernel_rfl) (by kernel_rfl) (by kernel_rfl) (by kernel_rfl)) ?_
  intro W base args ds gs before hval0 hW hcnd _
  have hval : ∀ (j : Nat) t v, Try.f3.params[j]? = some t → args[j]? = some v → Value.okWide Try.prog W .any base t v := hval0
  have hW' := hW
  obtain ⟨p, q, hA0, hV, rfl, hfz, hnd⟩ := hW
  have hA : DataW.TrodAll enc Try.prog W 0 (fun _ => true) true Try.f3.params.toList args.toList ds p := hA0
  rw [Try.params3] at hA hval
  obtain ⟨v0, v1, d0, d1, p0, p1, rfl, rfl, rfl, h0, h1⟩ := trodAll_two hA
  obtain ⟨rfl, rfl⟩ := trodVars_none hV
  obtain ⟨a1, rfl, rfl, rfl, w1⟩ := open_int Try.underlying3 (hval 1 3 v1 rfl rfl) h1
  obtain ⟨Ap, Al, np, cp, nl, cl, wr, pl, ls, rfl, hnp, hnl, HP, HL, -⟩ := open_book (hval 0 25 v0 rfl rfl) h0
  clear hA0 hval0
  refine (Through_any Ap Al np cp nl cl wr a1 pl ls W hnp hnl HP HL).mono fun e W' ⟨he, hb⟩ => ?_
  subst he
  exact ⟨_, rfl, law_post jn_kids jn_full (by rw [Try.params3]; decide) (by kernel_rfl) Try.underlying4 rfl rfl rfl rfl hW' hb⟩

theorem through_over : Rows.scrapThroughRow.holds Try.pinned (OpenSpec.ofChange Rows.scrapThroughSpec) :=
  OpenClaim.holds_of_wide 3 Try.f3 rfl rfl rfl rfl rfl rfl rfl ⟨rfl, rfl, rfl, rfl, rfl⟩ rfl rfl rfl rfl rfl (by kernel_rfl) Try.func3 (by kernel_rfl)
    (of_decide_eq_true (by kernel_rfl)) (by unfold Func.isWrapper; first | (rw [if_pos (by decide +kernel)]; kernel_rfl) | (rw [if_neg (by decide +kernel)]; exact ⟨rfl, rfl⟩))
    (fun os started H enc _ => through_lifted os started H enc)

/-- THE STATEMENT -/
theorem through_holds : Rows.ScrapThroughSaid := through_over
#print axioms through_holds

end Go.Proofs.Ytoehifincdflhaa
