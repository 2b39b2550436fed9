/- In a round of a range over a function a region that draws its order is walked by the plain laws, where none of its operations defers and nothing may be outgrown. -/
import Derived.Test.YtglpgcgidkdkiaaQd34
import Derived.Test.YtglpgcgidkdkiaaQd35
namespace Go.Proofs.Ytglpgcgidkdkiaa
open Go.RowKit
open Go.Sort (grow)
set_option linter.unusedVariables false
set_option linter.unusedSimpArgs false

section
variable {P : Program} {Q : Exit → Act → World → Prop} {F : Fence} {ops : Array Oper} {n : Nat}
theorem wpOpIn_of_wpOp (hF : F = Fence.wide ∨ ∃ l, F = Fence.wide.inRound l) {i : Nat} {K : Act → World → Prop} {a : Act} {w : World} (hLO : ¬ LetsOut Q)
    (hd : ∀ o, ops[i]? = some o → ∀ c, o.op ≠ .defer c) (h : wpOp P ops Q i K a w) : wpOpIn F n P ops Q i K a w := by
  unfold wpOp at h
  unfold wpOpIn
  cases ho : ops[i]? with
  | none => simp only [ho] at h ⊢; exact h
  | some o =>
    simp only [ho] at h ⊢
    have hfn : ∀ f, F.fn f := by
      rcases hF with rfl | ⟨l, rfl⟩
      · exact fun f => trivial
      · exact fun f => trivial
    split
    · rename_i hw
      simp only [hw, if_true] at h
      have h3 : o.wp P a w K Q := h.resolve_right fun h => hLO h.2
      refine ⟨fun f _ => hfn f, ?_⟩
      have hsem : o.semAt F.round a.eval = execOp a.eval o := Oper.semAt_eq _ _ _ (hd o ho)
      rw [hsem]
      unfold Oper.wp at h3
      generalize (execOp a.eval o).run P w = r at *
      cases r with
      | ok nx w' =>
        cases nx <;> simp only [Oper.upon] at h3 <;> simp only [Oper.uponIn]
        case value u => exact h3
        case skip => exact h3
        case defer d => exact h3
        case enter f args =>
          have hcc := (callsIn_wide (n := n - 1)).2 h3
          rcases hF with rfl | ⟨l, rfl⟩
          · exact ⟨fun hx => by simp [Fence.wide] at hx, hcc.mono fun e w'' hq => by cases e <;> exact hq⟩
          · exact ⟨fun hx => by simp [Fence.wide, Fence.inRound] at hx, CallsIn.inRound l (hcc.mono fun e w'' hq => by cases e <;> exact hq)⟩
        case row row args =>
          refine ⟨fun hx => by rcases hF with rfl | ⟨l, rfl⟩ <;> simp [Fence.wide, Fence.inRound] at hx, fun c cs _ => ?_⟩
          obtain ⟨v, w2, r2, s2⟩ := h3 c cs
          refine ⟨v, w2, r2, ?_⟩
          rcases hF with rfl | ⟨l, rfl⟩
          · exact stepsIn_wide.2 s2
          · rw [fenced_inRound]; exact stepsIn_wide.2 s2
      | halt x w' => cases x <;> simp only [Oper.upon] at h3 <;> simp only [Oper.uponIn] <;> exact h3
    · rename_i hw
      simp only [hw] at h
      exact ⟨fun f _ => hfn f, h⟩
theorem wpAnyIn_of_wpAny (hF : F = Fence.wide ∨ ∃ l, F = Fence.wide.inRound l) (hLO : ¬ LetsOut Q) (hd : (ops.toList.all fun p => match p.op with | .defer _ => false | _ => true) = true) :
    ∀ (fuel : Nat) (listed : Array Bool) (a : Act) (w : World), wpAny P .any ops Q fuel listed a w → wpAnyIn F n P .any ops Q fuel listed a w := by
  have hd' : ∀ (i : Nat) (o : Oper), ops[i]? = some o → ∀ c, o.op ≠ .defer c := fun i o ho c hc => by
    rw [List.all_eq_true] at hd
    have := hd o (by rw [← Array.getElem?_toList] at ho; exact List.mem_of_getElem? ho)
    rw [hc] at this
    simp at this
  intro fuel
  induction fuel with
  | zero => exact fun listed a w h => h
  | succ fuel ih =>
    exact fun listed a w h => ⟨h.1, fun i hi => wpOpIn_mono (fun a' w' h' => ih _ a' w' h') (wpOpIn_of_wpOp hF hLO (hd' i) (h.2 i hi))⟩
/-- in a round: the law of Hl -/
theorem wpIn_region_L {l id : Nat} {a : Act} {w : World} (hm : P.follows .mixedOrders = true) (hd : (ops.toList.all fun p => match p.op with | .defer _ => false | _ => true) = true) (hLO : ¬ LetsOut Q) (S : World → Prop) (m : Nat)
    (h : wpAnyL P ops Q S m ops.size (Array.replicate ops.size false) a { w with drawn := w.drawn + 1 }) : (Code.region id ops true).wpIn (Fence.wide.inRound l) n P Q a w :=
  wpIn_region_any hm (wpAnyIn_of_wpAny (.inr ⟨l, rfl⟩) hLO hd _ _ _ _ (wpAny_of_L _ _ _ _ h))
end

end Go.Proofs.Ytglpgcgidkdkiaa
