/-
  No cell of these rows narrows 'for every input' (looked for: loops, veiled, ifaces, maps, wideKeys, modest, calm, conditions, laid).
  DERIVED. THE GIVEN ROWS OF THIS SEAT. 2 by the template 'for every input the law returns true; each argument reads behind the call as it read before'; 0 by the template 'total and deterministic' (their statements: YtglpgcgidkdkiaaTotals.lean).
  GIVEN WITH THE SEED: the statements are not yours to turn. If you find one false, say at which input.
  Laid BY PROGRAM, IN A SANDBOX (cutbox-rows.mjs): the forced cells as the released guide's own fill.sh prints them over the translation 80b76971eb84daac… (all of the seat's roots in one cut). By AI agents, Wed Nov 11 2026. No macro, syntax, notation, axiom, sorry.
-/
import Derived.Test.YtglpgcgidkdkiaaChecked
import GoSem.Claim
import GoSem.ClaimJoined
import GoSem.ClaimMapViews
import Derived.JoinedTies
import Derived.KernelRfl
namespace Go.Proofs.Ytglpgcgidkdkiaa
/- THE CELL 'sum', in the pinned program and in every row, IS THE sha256 OF THE DUMP (.gsa) THAT YtglpgcgidkdkiaaProg.lean LOADS. Nothing in Lean hashes anything: it is a label: what it is worth is what the hold of that sum in a sandbox is worth. -/
noncomputable def Try.pinned : Pinned := { name := "ytglpgcgidkdkiaa", sum := "80b76971eb84daac5450b65da77abe44e8eae561bd261544e0f0179912186907", checked := Try.checked }
namespace Rows
def none {H : Type} : Left H := { results := [], args := [] }

/-- 'shackletop.TopArm': WHATEVER THE INPUT: true; the input reads as it did. -/
def topArmSpec : ChangeSpec := { name := "topArm", fn := fun _ => fun
  | [d1, d2, d3] => { results := [.lit (.bool true)], args := [d1, d2, d3] }
  | _ => none }
def topArmRow : OpenClaim := { program := "ytglpgcgidkdkiaa", sum := "80b76971eb84daac5450b65da77abe44e8eae561bd261544e0f0179912186907", func := "shackle/shackletop.TopArm", spec := "topArm", unfollowed := true, recurses := true, apart := false }
def TopArmSaid : Prop := topArmRow.holds Try.pinned (OpenSpec.ofChange topArmSpec)

/-- ITS FALSE NEIGHBOUR: 'it returns false'. Refute it at one input. -/
def topArmWrong : ChangeSpec := { name := "topArm", fn := fun _ => fun
  | [d1, d2, d3] => { results := [.lit (.bool false)], args := [d1, d2, d3] }
  | _ => none }
def TopArmWrongFalsely : Prop := topArmRow.holds Try.pinned (OpenSpec.ofChange topArmWrong)

/-- 'shackletop.TopPulled': WHATEVER THE INPUT: true; the input reads as it did. -/
def topPulledSpec : ChangeSpec := { name := "topPulled", fn := fun _ => fun
  | [d1, d2, d3] => { results := [.lit (.bool true)], args := [d1, d2, d3] }
  | _ => none }
def topPulledRow : OpenClaim := { program := "ytglpgcgidkdkiaa", sum := "80b76971eb84daac5450b65da77abe44e8eae561bd261544e0f0179912186907", func := "shackle/shackletop.TopPulled", spec := "topPulled", unfollowed := true, recurses := true, apart := false }
def TopPulledSaid : Prop := topPulledRow.holds Try.pinned (OpenSpec.ofChange topPulledSpec)

/-- ITS FALSE NEIGHBOUR: 'it returns false'. Refute it at one input. -/
def topPulledWrong : ChangeSpec := { name := "topPulled", fn := fun _ => fun
  | [d1, d2, d3] => { results := [.lit (.bool false)], args := [d1, d2, d3] }
  | _ => none }
def TopPulledWrongFalsely : Prop := topPulledRow.holds Try.pinned (OpenSpec.ofChange topPulledWrong)

/- THE SECOND FORM. 'bulk': how many values and letters a reading holds, each counted each time it is reached (what is shared counts as often as it is met; a slice's spare places count too). A statement '..UptoSaid' is the law's where the arguments, and the package variables that the reading takes, are together of bulk at most 1048576: NARROWER than '..Said'. Prove '..Said' where nothing that the law and all that it calls make is longer than what came in: it says more and counts as full. Else prove '..UptoSaid'. A law counts once. -/
mutual
def uptoBulk {H : Type} : DataW H → Nat
  | .lit (.string bytes) => bytes.length + 1
  | .lit _ => 1
  | .nil => 1
  | .ptr d => uptoBulk d + 1
  | .slice elems spare => uptoBulkAll elems + uptoBulkAll spare + 1
  | .agg parts => uptoBulkAll parts + 1
  | .iface _ d => uptoBulk d + 1
  | .map entries => uptoBulkEntries entries + 1
  | .held _ => 1
def uptoBulkAll {H : Type} : List (DataW H) → Nat
  | [] => 0
  | d :: r => uptoBulk d + uptoBulkAll r
def uptoBulkEntries {H : Type} : List (Lit × DataW H) → Nat
  | [] => 0
  | x :: r => uptoBulkEntry x + uptoBulkEntries r
def uptoBulkEntry {H : Type} : Lit × DataW H → Nat
  | (.string bytes, d) => bytes.length + uptoBulk d + 1
  | (_, d) => uptoBulk d + 1
 end
def uptoSmall : (H : Type) → List (DataW H) → Bool := fun _ ds => decide (uptoBulkAll ds ≤ 1048576)
def OpenSpec.upto (s : _root_.Go.ChangeSpec) : _root_.Go.OpenSpec := { _root_.Go.OpenSpec.ofChange s with cond := some uptoSmall }

/-- 'shackletop.TopArm', WHERE WHAT IT READS IS OF BULK AT MOST 1048576: true; the input reads as it did. -/
def topArmUptoRow : OpenClaim := { program := "ytglpgcgidkdkiaa", sum := "80b76971eb84daac5450b65da77abe44e8eae561bd261544e0f0179912186907", func := "shackle/shackletop.TopArm", spec := "topArm", unfollowed := true, recurses := true, apart := false, narrowed := true }
def TopArmUptoSaid : Prop := topArmUptoRow.holds Try.pinned (OpenSpec.upto topArmSpec)

/-- 'shackletop.TopPulled', WHERE WHAT IT READS IS OF BULK AT MOST 1048576: true; the input reads as it did. -/
def topPulledUptoRow : OpenClaim := { program := "ytglpgcgidkdkiaa", sum := "80b76971eb84daac5450b65da77abe44e8eae561bd261544e0f0179912186907", func := "shackle/shackletop.TopPulled", spec := "topPulled", unfollowed := true, recurses := true, apart := false, narrowed := true }
def TopPulledUptoSaid : Prop := topPulledUptoRow.holds Try.pinned (OpenSpec.upto topPulledSpec)

end Rows
end Go.Proofs.Ytglpgcgidkdkiaa
