/-
  No cell of these rows narrows 'for every input' (looked for: loops, veiled, ifaces, maps, wideKeys, modest, calm, conditions, laid).
  DERIVED. THE GIVEN ROWS OF THIS SEAT. 3 by the template 'for every input the law returns true; each argument reads behind the call as it read before'; 0 by the template 'total and deterministic' (their statements: YtdhlnlmhdacblaaTotals.lean).
  GIVEN WITH THE SEED: the statements are not yours to turn. If you find one false, say at which input.
  Laid BY PROGRAM, IN A SANDBOX (cutbox-rows.mjs): the forced cells as the released guide's own fill.sh prints them over the translation 61085beadf183572… (all of the seat's roots in one cut). By AI agents, Wed Nov 11 2026. No macro, syntax, notation, axiom, sorry.
-/
import Derived.Test.YtdhlnlmhdacblaaChecked
import GoSem.Claim
import GoSem.ClaimJoined
import GoSem.ClaimMapViews
import Derived.JoinedTies
import Derived.KernelRfl
namespace Go.Proofs.Ytdhlnlmhdacblaa
/- THE CELL 'sum', in the pinned program and in every row, IS THE sha256 OF THE DUMP (.gsa) THAT YtdhlnlmhdacblaaProg.lean LOADS. Nothing in Lean hashes anything: it is a label: what it is worth is what the hold of that sum in a sandbox is worth. -/
noncomputable def Try.pinned : Pinned := { name := "ytdhlnlmhdacblaa", sum := "61085beadf183572e14772056b14698ba577b857c0aca3b89aac1f4d669e6125", checked := Try.checked }
namespace Rows
def none {H : Type} : Left H := { results := [], args := [] }

/-- 'shacklelaw11.ScrapSawn': WHATEVER THE INPUT: true; the input reads as it did. -/
def scrapSawnSpec : ChangeSpec := { name := "scrapSawn", fn := fun _ => fun
  | [d] => { results := [.lit (.bool true)], args := [d] }
  | _ => none }
def scrapSawnRow : OpenClaim := { program := "ytdhlnlmhdacblaa", sum := "61085beadf183572e14772056b14698ba577b857c0aca3b89aac1f4d669e6125", func := "shackle/shacklelaw11.ScrapSawn", spec := "scrapSawn", unfollowed := true, recurses := true, apart := false }
def ScrapSawnSaid : Prop := scrapSawnRow.holds Try.pinned (OpenSpec.ofChange scrapSawnSpec)

/-- ITS FALSE NEIGHBOUR: 'it returns false'. Refute it at one input. -/
def scrapSawnWrong : ChangeSpec := { name := "scrapSawn", fn := fun _ => fun
  | [d] => { results := [.lit (.bool false)], args := [d] }
  | _ => none }
def ScrapSawnWrongFalsely : Prop := scrapSawnRow.holds Try.pinned (OpenSpec.ofChange scrapSawnWrong)

/-- 'shackletop.TopLedger': WHATEVER THE INPUT: true; the input reads as it did. -/
def topLedgerSpec : ChangeSpec := { name := "topLedger", fn := fun _ => fun
  | [d] => { results := [.lit (.bool true)], args := [d] }
  | _ => none }
def topLedgerRow : OpenClaim := { program := "ytdhlnlmhdacblaa", sum := "61085beadf183572e14772056b14698ba577b857c0aca3b89aac1f4d669e6125", func := "shackle/shackletop.TopLedger", spec := "topLedger", unfollowed := true, recurses := true, apart := false }
def TopLedgerSaid : Prop := topLedgerRow.holds Try.pinned (OpenSpec.ofChange topLedgerSpec)

/-- ITS FALSE NEIGHBOUR: 'it returns false'. Refute it at one input. -/
def topLedgerWrong : ChangeSpec := { name := "topLedger", fn := fun _ => fun
  | [d] => { results := [.lit (.bool false)], args := [d] }
  | _ => none }
def TopLedgerWrongFalsely : Prop := topLedgerRow.holds Try.pinned (OpenSpec.ofChange topLedgerWrong)

/-- 'shackletop.TopSaw': WHATEVER THE INPUT: true; the input reads as it did. -/
def topSawSpec : ChangeSpec := { name := "topSaw", fn := fun _ => fun
  | [d] => { results := [.lit (.bool true)], args := [d] }
  | _ => none }
def topSawRow : OpenClaim := { program := "ytdhlnlmhdacblaa", sum := "61085beadf183572e14772056b14698ba577b857c0aca3b89aac1f4d669e6125", func := "shackle/shackletop.TopSaw", spec := "topSaw", unfollowed := true, recurses := true, apart := false }
def TopSawSaid : Prop := topSawRow.holds Try.pinned (OpenSpec.ofChange topSawSpec)

/-- ITS FALSE NEIGHBOUR: 'it returns false'. Refute it at one input. -/
def topSawWrong : ChangeSpec := { name := "topSaw", fn := fun _ => fun
  | [d] => { results := [.lit (.bool false)], args := [d] }
  | _ => none }
def TopSawWrongFalsely : Prop := topSawRow.holds Try.pinned (OpenSpec.ofChange topSawWrong)

/- THE SECOND FORM. 'bulk': how many values and letters a reading holds, each counted each time it is reached (what is shared counts as often as it is met; a slice's spare places count too). A statement '..UptoSaid' is the law's where the arguments, and the package variables that the reading takes, are together of bulk at most 1048576: NARROWER than '..Said'. Prove '..Said' where nothing that the law and all that it calls make is longer than what came in: it says more and counts as full. Else prove '..UptoSaid'. A law counts once. -/
mutual
def uptoBulk {H : Type} : DataW H → Nat
  | .lit (.string bytes) => bytes.length + 1
  | .lit _ => 1
  | .nil => 1
  | .ptr d => uptoBulk d + 1
  | .slice elems spare => uptoBulkAll elems + uptoBulkAll spare + 1
  | .agg parts => uptoBulkAll parts + 1
  | .iface _ d => uptoBulk d + 1
  | .map entries => uptoBulkEntries entries + 1
  | .held _ => 1
def uptoBulkAll {H : Type} : List (DataW H) → Nat
  | [] => 0
  | d :: r => uptoBulk d + uptoBulkAll r
def uptoBulkEntries {H : Type} : List (Lit × DataW H) → Nat
  | [] => 0
  | x :: r => uptoBulkEntry x + uptoBulkEntries r
def uptoBulkEntry {H : Type} : Lit × DataW H → Nat
  | (.string bytes, d) => bytes.length + uptoBulk d + 1
  | (_, d) => uptoBulk d + 1
 end
def uptoSmall : (H : Type) → List (DataW H) → Bool := fun _ ds => decide (uptoBulkAll ds ≤ 1048576)
def OpenSpec.upto (s : _root_.Go.ChangeSpec) : _root_.Go.OpenSpec := { _root_.Go.OpenSpec.ofChange s with cond := some uptoSmall }

/-- 'shacklelaw11.ScrapSawn', WHERE WHAT IT READS IS OF BULK AT MOST 1048576: true; the input reads as it did. -/
def scrapSawnUptoRow : OpenClaim := { program := "ytdhlnlmhdacblaa", sum := "61085beadf183572e14772056b14698ba577b857c0aca3b89aac1f4d669e6125", func := "shackle/shacklelaw11.ScrapSawn", spec := "scrapSawn", unfollowed := true, recurses := true, apart := false, narrowed := true }
def ScrapSawnUptoSaid : Prop := scrapSawnUptoRow.holds Try.pinned (OpenSpec.upto scrapSawnSpec)

/-- 'shackletop.TopLedger', WHERE WHAT IT READS IS OF BULK AT MOST 1048576: true; the input reads as it did. -/
def topLedgerUptoRow : OpenClaim := { program := "ytdhlnlmhdacblaa", sum := "61085beadf183572e14772056b14698ba577b857c0aca3b89aac1f4d669e6125", func := "shackle/shackletop.TopLedger", spec := "topLedger", unfollowed := true, recurses := true, apart := false, narrowed := true }
def TopLedgerUptoSaid : Prop := topLedgerUptoRow.holds Try.pinned (OpenSpec.upto topLedgerSpec)

/-- 'shackletop.TopSaw', WHERE WHAT IT READS IS OF BULK AT MOST 1048576: true; the input reads as it did. -/
def topSawUptoRow : OpenClaim := { program := "ytdhlnlmhdacblaa", sum := "61085beadf183572e14772056b14698ba577b857c0aca3b89aac1f4d669e6125", func := "shackle/shackletop.TopSaw", spec := "topSaw", unfollowed := true, recurses := true, apart := false, narrowed := true }
def TopSawUptoSaid : Prop := topSawUptoRow.holds Try.pinned (OpenSpec.upto topSawSpec)

end Rows
end Go.Proofs.Ytdhlnlmhdacblaa
