/-
  No cell of these rows narrows 'for every input' (looked for: loops, veiled, ifaces, maps, wideKeys, modest, calm, conditions, laid).
  DERIVED. THE GIVEN ROWS OF THIS SEAT. 8 by the template 'for every input the law returns true; each argument reads behind the call as it read before'; 0 by the template 'total and deterministic' (their statements: YtjlibgledkdfiaaTotals.lean).
  GIVEN WITH THE SEED: the statements are not yours to turn. If you find one false, say at which input.
  Laid BY PROGRAM, IN A SANDBOX (cutbox-rows.mjs): the forced cells as the released guide's own fill.sh prints them over the translation 4d0731eddea976b4… (all of the seat's roots in one cut). By AI agents, Wed Nov 11 2026. No macro, syntax, notation, axiom, sorry.
-/
import Derived.Test.YtjlibgledkdfiaaChecked
import GoSem.Claim
import GoSem.ClaimJoined
import GoSem.ClaimMapViews
import Derived.JoinedTies
import Derived.KernelRfl
namespace Go.Proofs.Ytjlibgledkdfiaa
/- THE CELL 'sum', in the pinned program and in every row, IS THE sha256 OF THE DUMP (.gsa) THAT YtjlibgledkdfiaaProg.lean LOADS. Nothing in Lean hashes anything: it is a label: what it is worth is what the hold of that sum in a sandbox is worth. -/
noncomputable def Try.pinned : Pinned := { name := "ytjlibgledkdfiaa", sum := "4d0731eddea976b46a668460429a95c91b5a61bddc9db025e4ebf0382a04ccb3", checked := Try.checked }
namespace Rows
def none {H : Type} : Left H := { results := [], args := [] }

/-- 'shacklelaw04.StretchSame': WHATEVER THE INPUT: true; the input reads as it did. -/
def stretchSameSpec : ChangeSpec := { name := "stretchSame", fn := fun _ => fun
  | [d1, d2] => { results := [.lit (.bool true)], args := [d1, d2] }
  | _ => none }
def stretchSameRow : OpenClaim := { program := "ytjlibgledkdfiaa", sum := "4d0731eddea976b46a668460429a95c91b5a61bddc9db025e4ebf0382a04ccb3", func := "shackle/shacklelaw04.StretchSame", spec := "stretchSame", unfollowed := true, recurses := true, apart := false }
def StretchSameSaid : Prop := stretchSameRow.holds Try.pinned (OpenSpec.ofChange stretchSameSpec)

/-- ITS FALSE NEIGHBOUR: 'it returns false'. Refute it at one input. -/
def stretchSameWrong : ChangeSpec := { name := "stretchSame", fn := fun _ => fun
  | [d1, d2] => { results := [.lit (.bool false)], args := [d1, d2] }
  | _ => none }
def StretchSameWrongFalsely : Prop := stretchSameRow.holds Try.pinned (OpenSpec.ofChange stretchSameWrong)

/-- 'shacklelaw04.StretchParts': WHATEVER THE INPUT: true; the input reads as it did. -/
def stretchPartsSpec : ChangeSpec := { name := "stretchParts", fn := fun _ => fun
  | [d1, d2, d3] => { results := [.lit (.bool true)], args := [d1, d2, d3] }
  | _ => none }
def stretchPartsRow : OpenClaim := { program := "ytjlibgledkdfiaa", sum := "4d0731eddea976b46a668460429a95c91b5a61bddc9db025e4ebf0382a04ccb3", func := "shackle/shacklelaw04.StretchParts", spec := "stretchParts", unfollowed := true, recurses := true, apart := false }
def StretchPartsSaid : Prop := stretchPartsRow.holds Try.pinned (OpenSpec.ofChange stretchPartsSpec)

/-- ITS FALSE NEIGHBOUR: 'it returns false'. Refute it at one input. -/
def stretchPartsWrong : ChangeSpec := { name := "stretchParts", fn := fun _ => fun
  | [d1, d2, d3] => { results := [.lit (.bool false)], args := [d1, d2, d3] }
  | _ => none }
def StretchPartsWrongFalsely : Prop := stretchPartsRow.holds Try.pinned (OpenSpec.ofChange stretchPartsWrong)

/-- 'shacklelaw04.StretchMetal': WHATEVER THE INPUT: true; the input reads as it did. -/
def stretchMetalSpec : ChangeSpec := { name := "stretchMetal", fn := fun _ => fun
  | [d1, d2] => { results := [.lit (.bool true)], args := [d1, d2] }
  | _ => none }
def stretchMetalRow : OpenClaim := { program := "ytjlibgledkdfiaa", sum := "4d0731eddea976b46a668460429a95c91b5a61bddc9db025e4ebf0382a04ccb3", func := "shackle/shacklelaw04.StretchMetal", spec := "stretchMetal", unfollowed := true, recurses := true, apart := false }
def StretchMetalSaid : Prop := stretchMetalRow.holds Try.pinned (OpenSpec.ofChange stretchMetalSpec)

/-- ITS FALSE NEIGHBOUR: 'it returns false'. Refute it at one input. -/
def stretchMetalWrong : ChangeSpec := { name := "stretchMetal", fn := fun _ => fun
  | [d1, d2] => { results := [.lit (.bool false)], args := [d1, d2] }
  | _ => none }
def StretchMetalWrongFalsely : Prop := stretchMetalRow.holds Try.pinned (OpenSpec.ofChange stretchMetalWrong)

/-- 'shacklelaw04.StretchMore': WHATEVER THE INPUT: true; the input reads as it did. -/
def stretchMoreSpec : ChangeSpec := { name := "stretchMore", fn := fun _ => fun
  | [d1, d2] => { results := [.lit (.bool true)], args := [d1, d2] }
  | _ => none }
def stretchMoreRow : OpenClaim := { program := "ytjlibgledkdfiaa", sum := "4d0731eddea976b46a668460429a95c91b5a61bddc9db025e4ebf0382a04ccb3", func := "shackle/shacklelaw04.StretchMore", spec := "stretchMore", unfollowed := true, recurses := true, apart := false }
def StretchMoreSaid : Prop := stretchMoreRow.holds Try.pinned (OpenSpec.ofChange stretchMoreSpec)

/-- ITS FALSE NEIGHBOUR: 'it returns false'. Refute it at one input. -/
def stretchMoreWrong : ChangeSpec := { name := "stretchMore", fn := fun _ => fun
  | [d1, d2] => { results := [.lit (.bool false)], args := [d1, d2] }
  | _ => none }
def StretchMoreWrongFalsely : Prop := stretchMoreRow.holds Try.pinned (OpenSpec.ofChange stretchMoreWrong)

/-- 'shacklelaw04.StretchTurned': WHATEVER THE INPUT: true; the input reads as it did. -/
def stretchTurnedSpec : ChangeSpec := { name := "stretchTurned", fn := fun _ => fun
  | [d1, d2, d3] => { results := [.lit (.bool true)], args := [d1, d2, d3] }
  | _ => none }
def stretchTurnedRow : OpenClaim := { program := "ytjlibgledkdfiaa", sum := "4d0731eddea976b46a668460429a95c91b5a61bddc9db025e4ebf0382a04ccb3", func := "shackle/shacklelaw04.StretchTurned", spec := "stretchTurned", unfollowed := true, recurses := true, apart := false }
def StretchTurnedSaid : Prop := stretchTurnedRow.holds Try.pinned (OpenSpec.ofChange stretchTurnedSpec)

/-- ITS FALSE NEIGHBOUR: 'it returns false'. Refute it at one input. -/
def stretchTurnedWrong : ChangeSpec := { name := "stretchTurned", fn := fun _ => fun
  | [d1, d2, d3] => { results := [.lit (.bool false)], args := [d1, d2, d3] }
  | _ => none }
def StretchTurnedWrongFalsely : Prop := stretchTurnedRow.holds Try.pinned (OpenSpec.ofChange stretchTurnedWrong)

/-- 'shacklelaw04.StretchLengths': WHATEVER THE INPUT: true; the input reads as it did. -/
def stretchLengthsSpec : ChangeSpec := { name := "stretchLengths", fn := fun _ => fun
  | [d1, d2] => { results := [.lit (.bool true)], args := [d1, d2] }
  | _ => none }
def stretchLengthsRow : OpenClaim := { program := "ytjlibgledkdfiaa", sum := "4d0731eddea976b46a668460429a95c91b5a61bddc9db025e4ebf0382a04ccb3", func := "shackle/shacklelaw04.StretchLengths", spec := "stretchLengths", unfollowed := true, recurses := true, apart := false }
def StretchLengthsSaid : Prop := stretchLengthsRow.holds Try.pinned (OpenSpec.ofChange stretchLengthsSpec)

/-- ITS FALSE NEIGHBOUR: 'it returns false'. Refute it at one input. -/
def stretchLengthsWrong : ChangeSpec := { name := "stretchLengths", fn := fun _ => fun
  | [d1, d2] => { results := [.lit (.bool false)], args := [d1, d2] }
  | _ => none }
def StretchLengthsWrongFalsely : Prop := stretchLengthsRow.holds Try.pinned (OpenSpec.ofChange stretchLengthsWrong)

/-- 'shacklelaw04.StretchHolds': WHATEVER THE INPUT: true; the input reads as it did. -/
def stretchHoldsSpec : ChangeSpec := { name := "stretchHolds", fn := fun _ => fun
  | [d1, d2] => { results := [.lit (.bool true)], args := [d1, d2] }
  | _ => none }
def stretchHoldsRow : OpenClaim := { program := "ytjlibgledkdfiaa", sum := "4d0731eddea976b46a668460429a95c91b5a61bddc9db025e4ebf0382a04ccb3", func := "shackle/shacklelaw04.StretchHolds", spec := "stretchHolds", unfollowed := true, recurses := true, apart := false }
def StretchHoldsSaid : Prop := stretchHoldsRow.holds Try.pinned (OpenSpec.ofChange stretchHoldsSpec)

/-- ITS FALSE NEIGHBOUR: 'it returns false'. Refute it at one input. -/
def stretchHoldsWrong : ChangeSpec := { name := "stretchHolds", fn := fun _ => fun
  | [d1, d2] => { results := [.lit (.bool false)], args := [d1, d2] }
  | _ => none }
def StretchHoldsWrongFalsely : Prop := stretchHoldsRow.holds Try.pinned (OpenSpec.ofChange stretchHoldsWrong)

/-- 'shacklelaw04.StretchTrue': WHATEVER THE INPUT: true; the input reads as it did. -/
def stretchTrueSpec : ChangeSpec := { name := "stretchTrue", fn := fun _ => fun
  | [d1, d2, d3] => { results := [.lit (.bool true)], args := [d1, d2, d3] }
  | _ => none }
def stretchTrueRow : OpenClaim := { program := "ytjlibgledkdfiaa", sum := "4d0731eddea976b46a668460429a95c91b5a61bddc9db025e4ebf0382a04ccb3", func := "shackle/shacklelaw04.StretchTrue", spec := "stretchTrue", unfollowed := true, recurses := true, apart := false }
def StretchTrueSaid : Prop := stretchTrueRow.holds Try.pinned (OpenSpec.ofChange stretchTrueSpec)

/-- ITS FALSE NEIGHBOUR: 'it returns false'. Refute it at one input. -/
def stretchTrueWrong : ChangeSpec := { name := "stretchTrue", fn := fun _ => fun
  | [d1, d2, d3] => { results := [.lit (.bool false)], args := [d1, d2, d3] }
  | _ => none }
def StretchTrueWrongFalsely : Prop := stretchTrueRow.holds Try.pinned (OpenSpec.ofChange stretchTrueWrong)

/- THE SECOND FORM. 'bulk': how many values and letters a reading holds, each counted each time it is reached (what is shared counts as often as it is met; a slice's spare places count too). A statement '..UptoSaid' is the law's where the arguments, and the package variables that the reading takes, are together of bulk at most 1048576: NARROWER than '..Said'. Prove '..Said' where nothing that the law and all that it calls make is longer than what came in: it says more and counts as full. Else prove '..UptoSaid'. A law counts once. -/
mutual
def uptoBulk {H : Type} : DataW H → Nat
  | .lit (.string bytes) => bytes.length + 1
  | .lit _ => 1
  | .nil => 1
  | .ptr d => uptoBulk d + 1
  | .slice elems spare => uptoBulkAll elems + uptoBulkAll spare + 1
  | .agg parts => uptoBulkAll parts + 1
  | .iface _ d => uptoBulk d + 1
  | .map entries => uptoBulkEntries entries + 1
  | .held _ => 1
def uptoBulkAll {H : Type} : List (DataW H) → Nat
  | [] => 0
  | d :: r => uptoBulk d + uptoBulkAll r
def uptoBulkEntries {H : Type} : List (Lit × DataW H) → Nat
  | [] => 0
  | x :: r => uptoBulkEntry x + uptoBulkEntries r
def uptoBulkEntry {H : Type} : Lit × DataW H → Nat
  | (.string bytes, d) => bytes.length + uptoBulk d + 1
  | (_, d) => uptoBulk d + 1
 end
def uptoSmall : (H : Type) → List (DataW H) → Bool := fun _ ds => decide (uptoBulkAll ds ≤ 1048576)
def OpenSpec.upto (s : _root_.Go.ChangeSpec) : _root_.Go.OpenSpec := { _root_.Go.OpenSpec.ofChange s with cond := some uptoSmall }

/-- 'shacklelaw04.StretchSame', WHERE WHAT IT READS IS OF BULK AT MOST 1048576: true; the input reads as it did. -/
def stretchSameUptoRow : OpenClaim := { program := "ytjlibgledkdfiaa", sum := "4d0731eddea976b46a668460429a95c91b5a61bddc9db025e4ebf0382a04ccb3", func := "shackle/shacklelaw04.StretchSame", spec := "stretchSame", unfollowed := true, recurses := true, apart := false, narrowed := true }
def StretchSameUptoSaid : Prop := stretchSameUptoRow.holds Try.pinned (OpenSpec.upto stretchSameSpec)

/-- 'shacklelaw04.StretchParts', WHERE WHAT IT READS IS OF BULK AT MOST 1048576: true; the input reads as it did. -/
def stretchPartsUptoRow : OpenClaim := { program := "ytjlibgledkdfiaa", sum := "4d0731eddea976b46a668460429a95c91b5a61bddc9db025e4ebf0382a04ccb3", func := "shackle/shacklelaw04.StretchParts", spec := "stretchParts", unfollowed := true, recurses := true, apart := false, narrowed := true }
def StretchPartsUptoSaid : Prop := stretchPartsUptoRow.holds Try.pinned (OpenSpec.upto stretchPartsSpec)

/-- 'shacklelaw04.StretchMetal', WHERE WHAT IT READS IS OF BULK AT MOST 1048576: true; the input reads as it did. -/
def stretchMetalUptoRow : OpenClaim := { program := "ytjlibgledkdfiaa", sum := "4d0731eddea976b46a668460429a95c91b5a61bddc9db025e4ebf0382a04ccb3", func := "shackle/shacklelaw04.StretchMetal", spec := "stretchMetal", unfollowed := true, recurses := true, apart := false, narrowed := true }
def StretchMetalUptoSaid : Prop := stretchMetalUptoRow.holds Try.pinned (OpenSpec.upto stretchMetalSpec)

/-- 'shacklelaw04.StretchMore', WHERE WHAT IT READS IS OF BULK AT MOST 1048576: true; the input reads as it did. -/
def stretchMoreUptoRow : OpenClaim := { program := "ytjlibgledkdfiaa", sum := "4d0731eddea976b46a668460429a95c91b5a61bddc9db025e4ebf0382a04ccb3", func := "shackle/shacklelaw04.StretchMore", spec := "stretchMore", unfollowed := true, recurses := true, apart := false, narrowed := true }
def StretchMoreUptoSaid : Prop := stretchMoreUptoRow.holds Try.pinned (OpenSpec.upto stretchMoreSpec)

/-- 'shacklelaw04.StretchTurned', WHERE WHAT IT READS IS OF BULK AT MOST 1048576: true; the input reads as it did. -/
def stretchTurnedUptoRow : OpenClaim := { program := "ytjlibgledkdfiaa", sum := "4d0731eddea976b46a668460429a95c91b5a61bddc9db025e4ebf0382a04ccb3", func := "shackle/shacklelaw04.StretchTurned", spec := "stretchTurned", unfollowed := true, recurses := true, apart := false, narrowed := true }
def StretchTurnedUptoSaid : Prop := stretchTurnedUptoRow.holds Try.pinned (OpenSpec.upto stretchTurnedSpec)

/-- 'shacklelaw04.StretchLengths', WHERE WHAT IT READS IS OF BULK AT MOST 1048576: true; the input reads as it did. -/
def stretchLengthsUptoRow : OpenClaim := { program := "ytjlibgledkdfiaa", sum := "4d0731eddea976b46a668460429a95c91b5a61bddc9db025e4ebf0382a04ccb3", func := "shackle/shacklelaw04.StretchLengths", spec := "stretchLengths", unfollowed := true, recurses := true, apart := false, narrowed := true }
def StretchLengthsUptoSaid : Prop := stretchLengthsUptoRow.holds Try.pinned (OpenSpec.upto stretchLengthsSpec)

/-- 'shacklelaw04.StretchHolds', WHERE WHAT IT READS IS OF BULK AT MOST 1048576: true; the input reads as it did. -/
def stretchHoldsUptoRow : OpenClaim := { program := "ytjlibgledkdfiaa", sum := "4d0731eddea976b46a668460429a95c91b5a61bddc9db025e4ebf0382a04ccb3", func := "shackle/shacklelaw04.StretchHolds", spec := "stretchHolds", unfollowed := true, recurses := true, apart := false, narrowed := true }
def StretchHoldsUptoSaid : Prop := stretchHoldsUptoRow.holds Try.pinned (OpenSpec.upto stretchHoldsSpec)

/-- 'shacklelaw04.StretchTrue', WHERE WHAT IT READS IS OF BULK AT MOST 1048576: true; the input reads as it did. -/
def stretchTrueUptoRow : OpenClaim := { program := "ytjlibgledkdfiaa", sum := "4d0731eddea976b46a668460429a95c91b5a61bddc9db025e4ebf0382a04ccb3", func := "shackle/shacklelaw04.StretchTrue", spec := "stretchTrue", unfollowed := true, recurses := true, apart := false, narrowed := true }
def StretchTrueUptoSaid : Prop := stretchTrueUptoRow.holds Try.pinned (OpenSpec.upto stretchTrueSpec)

end Rows
end Go.Proofs.Ytjlibgledkdfiaa
