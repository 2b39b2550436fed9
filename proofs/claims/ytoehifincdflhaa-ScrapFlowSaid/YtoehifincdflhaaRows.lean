/-
  No cell of these rows narrows 'for every input' (looked for: loops, veiled, ifaces, maps, wideKeys, modest, calm, conditions, laid).
  DERIVED. THE GIVEN ROWS OF THIS SEAT. 8 by the template 'for every input the law returns true; each argument reads behind the call as it read before'; 0 by the template 'total and deterministic' (their statements: YtoehifincdflhaaTotals.lean).
  GIVEN WITH THE SEED: the statements are not yours to turn. If you find one false, say at which input.
  Laid BY PROGRAM, IN A SANDBOX (cutbox-rows.mjs): the forced cells as the released guide's own fill.sh prints them over the translation 0c2da1aba387d96c… (all of the seat's roots in one cut). By AI agents, Wed Nov 11 2026. No macro, syntax, notation, axiom, sorry.
-/
import Derived.Test.YtoehifincdflhaaChecked
import GoSem.Claim
import GoSem.ClaimJoined
import GoSem.ClaimMapViews
import Derived.JoinedTies
import Derived.KernelRfl
namespace Go.Proofs.Ytoehifincdflhaa
/- THE CELL 'sum', in the pinned program and in every row, IS THE sha256 OF THE DUMP (.gsa) THAT YtoehifincdflhaaProg.lean LOADS. Nothing in Lean hashes anything: it is a label: what it is worth is what the hold of that sum in a sandbox is worth. -/
noncomputable def Try.pinned : Pinned := { name := "ytoehifincdflhaa", sum := "0c2da1aba387d96ceb7f989d965ef0bd9e82395ae92c80d76822849502f3fac7", checked := Try.checked }
namespace Rows
def none {H : Type} : Left H := { results := [], args := [] }

/-- 'shacklelaw11.ScrapThrough': WHATEVER THE INPUT: true; the input reads as it did. -/
def scrapThroughSpec : ChangeSpec := { name := "scrapThrough", fn := fun _ => fun
  | [d1, d2] => { results := [.lit (.bool true)], args := [d1, d2] }
  | _ => none }
def scrapThroughRow : OpenClaim := { program := "ytoehifincdflhaa", sum := "0c2da1aba387d96ceb7f989d965ef0bd9e82395ae92c80d76822849502f3fac7", func := "shackle/shacklelaw11.ScrapThrough", spec := "scrapThrough", unfollowed := true, recurses := true, apart := false }
def ScrapThroughSaid : Prop := scrapThroughRow.holds Try.pinned (OpenSpec.ofChange scrapThroughSpec)

/-- ITS FALSE NEIGHBOUR: 'it returns false'. Refute it at one input. -/
def scrapThroughWrong : ChangeSpec := { name := "scrapThrough", fn := fun _ => fun
  | [d1, d2] => { results := [.lit (.bool false)], args := [d1, d2] }
  | _ => none }
def ScrapThroughWrongFalsely : Prop := scrapThroughRow.holds Try.pinned (OpenSpec.ofChange scrapThroughWrong)

/-- 'shacklelaw11.ScrapTrue': WHATEVER THE INPUT: true; the input reads as it did. -/
def scrapTrueSpec : ChangeSpec := { name := "scrapTrue", fn := fun _ => fun
  | [d1, d2] => { results := [.lit (.bool true)], args := [d1, d2] }
  | _ => none }
def scrapTrueRow : OpenClaim := { program := "ytoehifincdflhaa", sum := "0c2da1aba387d96ceb7f989d965ef0bd9e82395ae92c80d76822849502f3fac7", func := "shackle/shacklelaw11.ScrapTrue", spec := "scrapTrue", unfollowed := true, recurses := true, apart := false }
def ScrapTrueSaid : Prop := scrapTrueRow.holds Try.pinned (OpenSpec.ofChange scrapTrueSpec)

/-- ITS FALSE NEIGHBOUR: 'it returns false'. Refute it at one input. -/
def scrapTrueWrong : ChangeSpec := { name := "scrapTrue", fn := fun _ => fun
  | [d1, d2] => { results := [.lit (.bool false)], args := [d1, d2] }
  | _ => none }
def ScrapTrueWrongFalsely : Prop := scrapTrueRow.holds Try.pinned (OpenSpec.ofChange scrapTrueWrong)

/-- 'shacklelaw11.ScrapMore': WHATEVER THE INPUT: true; the input reads as it did. -/
def scrapMoreSpec : ChangeSpec := { name := "scrapMore", fn := fun _ => fun
  | [d1, d2] => { results := [.lit (.bool true)], args := [d1, d2] }
  | _ => none }
def scrapMoreRow : OpenClaim := { program := "ytoehifincdflhaa", sum := "0c2da1aba387d96ceb7f989d965ef0bd9e82395ae92c80d76822849502f3fac7", func := "shackle/shacklelaw11.ScrapMore", spec := "scrapMore", unfollowed := true, recurses := true, apart := false }
def ScrapMoreSaid : Prop := scrapMoreRow.holds Try.pinned (OpenSpec.ofChange scrapMoreSpec)

/-- ITS FALSE NEIGHBOUR: 'it returns false'. Refute it at one input. -/
def scrapMoreWrong : ChangeSpec := { name := "scrapMore", fn := fun _ => fun
  | [d1, d2] => { results := [.lit (.bool false)], args := [d1, d2] }
  | _ => none }
def ScrapMoreWrongFalsely : Prop := scrapMoreRow.holds Try.pinned (OpenSpec.ofChange scrapMoreWrong)

/-- 'shacklelaw11.ScrapLines': WHATEVER THE INPUT: true; the input reads as it did. -/
def scrapLinesSpec : ChangeSpec := { name := "scrapLines", fn := fun _ => fun
  | [d1, d2, d3] => { results := [.lit (.bool true)], args := [d1, d2, d3] }
  | _ => none }
def scrapLinesRow : OpenClaim := { program := "ytoehifincdflhaa", sum := "0c2da1aba387d96ceb7f989d965ef0bd9e82395ae92c80d76822849502f3fac7", func := "shackle/shacklelaw11.ScrapLines", spec := "scrapLines", unfollowed := true, recurses := true, apart := false }
def ScrapLinesSaid : Prop := scrapLinesRow.holds Try.pinned (OpenSpec.ofChange scrapLinesSpec)

/-- ITS FALSE NEIGHBOUR: 'it returns false'. Refute it at one input. -/
def scrapLinesWrong : ChangeSpec := { name := "scrapLines", fn := fun _ => fun
  | [d1, d2, d3] => { results := [.lit (.bool false)], args := [d1, d2, d3] }
  | _ => none }
def ScrapLinesWrongFalsely : Prop := scrapLinesRow.holds Try.pinned (OpenSpec.ofChange scrapLinesWrong)

/-- 'shacklelaw11.ScrapStrange': WHATEVER THE INPUT: true; the input reads as it did. -/
def scrapStrangeSpec : ChangeSpec := { name := "scrapStrange", fn := fun _ => fun
  | [d] => { results := [.lit (.bool true)], args := [d] }
  | _ => none }
def scrapStrangeRow : OpenClaim := { program := "ytoehifincdflhaa", sum := "0c2da1aba387d96ceb7f989d965ef0bd9e82395ae92c80d76822849502f3fac7", func := "shackle/shacklelaw11.ScrapStrange", spec := "scrapStrange", unfollowed := true, recurses := true, apart := false }
def ScrapStrangeSaid : Prop := scrapStrangeRow.holds Try.pinned (OpenSpec.ofChange scrapStrangeSpec)

/-- ITS FALSE NEIGHBOUR: 'it returns false'. Refute it at one input. -/
def scrapStrangeWrong : ChangeSpec := { name := "scrapStrange", fn := fun _ => fun
  | [d] => { results := [.lit (.bool false)], args := [d] }
  | _ => none }
def ScrapStrangeWrongFalsely : Prop := scrapStrangeRow.holds Try.pinned (OpenSpec.ofChange scrapStrangeWrong)

/-- 'shacklelaw11.ScrapFits': WHATEVER THE INPUT: true; the input reads as it did. -/
def scrapFitsSpec : ChangeSpec := { name := "scrapFits", fn := fun _ => fun
  | [d1, d2] => { results := [.lit (.bool true)], args := [d1, d2] }
  | _ => none }
def scrapFitsRow : OpenClaim := { program := "ytoehifincdflhaa", sum := "0c2da1aba387d96ceb7f989d965ef0bd9e82395ae92c80d76822849502f3fac7", func := "shackle/shacklelaw11.ScrapFits", spec := "scrapFits", unfollowed := true, recurses := true, apart := false }
def ScrapFitsSaid : Prop := scrapFitsRow.holds Try.pinned (OpenSpec.ofChange scrapFitsSpec)

/-- ITS FALSE NEIGHBOUR: 'it returns false'. Refute it at one input. -/
def scrapFitsWrong : ChangeSpec := { name := "scrapFits", fn := fun _ => fun
  | [d1, d2] => { results := [.lit (.bool false)], args := [d1, d2] }
  | _ => none }
def ScrapFitsWrongFalsely : Prop := scrapFitsRow.holds Try.pinned (OpenSpec.ofChange scrapFitsWrong)

/-- 'shacklelaw11.ScrapProof': WHATEVER THE INPUT: true; the input reads as it did. -/
def scrapProofSpec : ChangeSpec := { name := "scrapProof", fn := fun _ => fun
  | [d] => { results := [.lit (.bool true)], args := [d] }
  | _ => none }
def scrapProofRow : OpenClaim := { program := "ytoehifincdflhaa", sum := "0c2da1aba387d96ceb7f989d965ef0bd9e82395ae92c80d76822849502f3fac7", func := "shackle/shacklelaw11.ScrapProof", spec := "scrapProof", unfollowed := true, recurses := true, apart := false }
def ScrapProofSaid : Prop := scrapProofRow.holds Try.pinned (OpenSpec.ofChange scrapProofSpec)

/-- ITS FALSE NEIGHBOUR: 'it returns false'. Refute it at one input. -/
def scrapProofWrong : ChangeSpec := { name := "scrapProof", fn := fun _ => fun
  | [d] => { results := [.lit (.bool false)], args := [d] }
  | _ => none }
def ScrapProofWrongFalsely : Prop := scrapProofRow.holds Try.pinned (OpenSpec.ofChange scrapProofWrong)

/-- 'shacklelaw11.ScrapFlow': WHATEVER THE INPUT: true; the input reads as it did. -/
def scrapFlowSpec : ChangeSpec := { name := "scrapFlow", fn := fun _ => fun
  | [d1, d2] => { results := [.lit (.bool true)], args := [d1, d2] }
  | _ => none }
def scrapFlowRow : OpenClaim := { program := "ytoehifincdflhaa", sum := "0c2da1aba387d96ceb7f989d965ef0bd9e82395ae92c80d76822849502f3fac7", func := "shackle/shacklelaw11.ScrapFlow", spec := "scrapFlow", unfollowed := true, recurses := true, apart := false }
def ScrapFlowSaid : Prop := scrapFlowRow.holds Try.pinned (OpenSpec.ofChange scrapFlowSpec)

/-- ITS FALSE NEIGHBOUR: 'it returns false'. Refute it at one input. -/
def scrapFlowWrong : ChangeSpec := { name := "scrapFlow", fn := fun _ => fun
  | [d1, d2] => { results := [.lit (.bool false)], args := [d1, d2] }
  | _ => none }
def ScrapFlowWrongFalsely : Prop := scrapFlowRow.holds Try.pinned (OpenSpec.ofChange scrapFlowWrong)

/- THE SECOND FORM. 'bulk': how many values and letters a reading holds, each counted each time it is reached (what is shared counts as often as it is met; a slice's spare places count too). A statement '..UptoSaid' is the law's where the arguments, and the package variables that the reading takes, are together of bulk at most 1048576: NARROWER than '..Said'. Prove '..Said' where nothing that the law and all that it calls make is longer than what came in: it says more and counts as full. Else prove '..UptoSaid'. A law counts once. -/
mutual
def uptoBulk {H : Type} : DataW H → Nat
  | .lit (.string bytes) => bytes.length + 1
  | .lit _ => 1
  | .nil => 1
  | .ptr d => uptoBulk d + 1
  | .slice elems spare => uptoBulkAll elems + uptoBulkAll spare + 1
  | .agg parts => uptoBulkAll parts + 1
  | .iface _ d => uptoBulk d + 1
  | .map entries => uptoBulkEntries entries + 1
  | .held _ => 1
def uptoBulkAll {H : Type} : List (DataW H) → Nat
  | [] => 0
  | d :: r => uptoBulk d + uptoBulkAll r
def uptoBulkEntries {H : Type} : List (Lit × DataW H) → Nat
  | [] => 0
  | x :: r => uptoBulkEntry x + uptoBulkEntries r
def uptoBulkEntry {H : Type} : Lit × DataW H → Nat
  | (.string bytes, d) => bytes.length + uptoBulk d + 1
  | (_, d) => uptoBulk d + 1
 end
def uptoSmall : (H : Type) → List (DataW H) → Bool := fun _ ds => decide (uptoBulkAll ds ≤ 1048576)
def OpenSpec.upto (s : _root_.Go.ChangeSpec) : _root_.Go.OpenSpec := { _root_.Go.OpenSpec.ofChange s with cond := some uptoSmall }

/-- 'shacklelaw11.ScrapThrough', WHERE WHAT IT READS IS OF BULK AT MOST 1048576: true; the input reads as it did. -/
def scrapThroughUptoRow : OpenClaim := { program := "ytoehifincdflhaa", sum := "0c2da1aba387d96ceb7f989d965ef0bd9e82395ae92c80d76822849502f3fac7", func := "shackle/shacklelaw11.ScrapThrough", spec := "scrapThrough", unfollowed := true, recurses := true, apart := false, narrowed := true }
def ScrapThroughUptoSaid : Prop := scrapThroughUptoRow.holds Try.pinned (OpenSpec.upto scrapThroughSpec)

/-- 'shacklelaw11.ScrapTrue', WHERE WHAT IT READS IS OF BULK AT MOST 1048576: true; the input reads as it did. -/
def scrapTrueUptoRow : OpenClaim := { program := "ytoehifincdflhaa", sum := "0c2da1aba387d96ceb7f989d965ef0bd9e82395ae92c80d76822849502f3fac7", func := "shackle/shacklelaw11.ScrapTrue", spec := "scrapTrue", unfollowed := true, recurses := true, apart := false, narrowed := true }
def ScrapTrueUptoSaid : Prop := scrapTrueUptoRow.holds Try.pinned (OpenSpec.upto scrapTrueSpec)

/-- 'shacklelaw11.ScrapMore', WHERE WHAT IT READS IS OF BULK AT MOST 1048576: true; the input reads as it did. -/
def scrapMoreUptoRow : OpenClaim := { program := "ytoehifincdflhaa", sum := "0c2da1aba387d96ceb7f989d965ef0bd9e82395ae92c80d76822849502f3fac7", func := "shackle/shacklelaw11.ScrapMore", spec := "scrapMore", unfollowed := true, recurses := true, apart := false, narrowed := true }
def ScrapMoreUptoSaid : Prop := scrapMoreUptoRow.holds Try.pinned (OpenSpec.upto scrapMoreSpec)

/-- 'shacklelaw11.ScrapLines', WHERE WHAT IT READS IS OF BULK AT MOST 1048576: true; the input reads as it did. -/
def scrapLinesUptoRow : OpenClaim := { program := "ytoehifincdflhaa", sum := "0c2da1aba387d96ceb7f989d965ef0bd9e82395ae92c80d76822849502f3fac7", func := "shackle/shacklelaw11.ScrapLines", spec := "scrapLines", unfollowed := true, recurses := true, apart := false, narrowed := true }
def ScrapLinesUptoSaid : Prop := scrapLinesUptoRow.holds Try.pinned (OpenSpec.upto scrapLinesSpec)

/-- 'shacklelaw11.ScrapStrange', WHERE WHAT IT READS IS OF BULK AT MOST 1048576: true; the input reads as it did. -/
def scrapStrangeUptoRow : OpenClaim := { program := "ytoehifincdflhaa", sum := "0c2da1aba387d96ceb7f989d965ef0bd9e82395ae92c80d76822849502f3fac7", func := "shackle/shacklelaw11.ScrapStrange", spec := "scrapStrange", unfollowed := true, recurses := true, apart := false, narrowed := true }
def ScrapStrangeUptoSaid : Prop := scrapStrangeUptoRow.holds Try.pinned (OpenSpec.upto scrapStrangeSpec)

/-- 'shacklelaw11.ScrapFits', WHERE WHAT IT READS IS OF BULK AT MOST 1048576: true; the input reads as it did. -/
def scrapFitsUptoRow : OpenClaim := { program := "ytoehifincdflhaa", sum := "0c2da1aba387d96ceb7f989d965ef0bd9e82395ae92c80d76822849502f3fac7", func := "shackle/shacklelaw11.ScrapFits", spec := "scrapFits", unfollowed := true, recurses := true, apart := false, narrowed := true }
def ScrapFitsUptoSaid : Prop := scrapFitsUptoRow.holds Try.pinned (OpenSpec.upto scrapFitsSpec)

/-- 'shacklelaw11.ScrapProof', WHERE WHAT IT READS IS OF BULK AT MOST 1048576: true; the input reads as it did. -/
def scrapProofUptoRow : OpenClaim := { program := "ytoehifincdflhaa", sum := "0c2da1aba387d96ceb7f989d965ef0bd9e82395ae92c80d76822849502f3fac7", func := "shackle/shacklelaw11.ScrapProof", spec := "scrapProof", unfollowed := true, recurses := true, apart := false, narrowed := true }
def ScrapProofUptoSaid : Prop := scrapProofUptoRow.holds Try.pinned (OpenSpec.upto scrapProofSpec)

/-- 'shacklelaw11.ScrapFlow', WHERE WHAT IT READS IS OF BULK AT MOST 1048576: true; the input reads as it did. -/
def scrapFlowUptoRow : OpenClaim := { program := "ytoehifincdflhaa", sum := "0c2da1aba387d96ceb7f989d965ef0bd9e82395ae92c80d76822849502f3fac7", func := "shackle/shacklelaw11.ScrapFlow", spec := "scrapFlow", unfollowed := true, recurses := true, apart := false, narrowed := true }
def ScrapFlowUptoSaid : Prop := scrapFlowUptoRow.holds Try.pinned (OpenSpec.upto scrapFlowSpec)

end Rows
end Go.Proofs.Ytoehifincdflhaa
