/-
  No cell of these rows narrows 'for every input' (looked for: loops, veiled, ifaces, maps, wideKeys, modest, calm, conditions, laid).
  DERIVED. THE GIVEN ROWS OF THIS SEAT. 9 by the template 'for every input the law returns true; each argument reads behind the call as it read before'; 0 by the template 'total and deterministic' (their statements: YthjjakhmbgnnnaaTotals.lean).
  GIVEN WITH THE SEED: the statements are not yours to turn. If you find one false, say at which input.
  Laid BY PROGRAM, IN A SANDBOX (cutbox-rows.mjs): the forced cells as the released guide's own fill.sh prints them over the translation 572f0ecb56015915… (all of the seat's roots in one cut). By AI agents, Wed Nov 11 2026. No macro, syntax, notation, axiom, sorry.
-/
import Derived.Test.YthjjakhmbgnnnaaChecked
import GoSem.Claim
import GoSem.ClaimJoined
import GoSem.ClaimMapViews
import Derived.JoinedTies
import Derived.KernelRfl
namespace Go.Proofs.Ythjjakhmbgnnnaa
/- THE CELL 'sum', in the pinned program and in every row, IS THE sha256 OF THE DUMP (.gsa) THAT YthjjakhmbgnnnaaProg.lean LOADS. Nothing in Lean hashes anything: it is a label: what it is worth is what the hold of that sum in a sandbox is worth. -/
noncomputable def Try.pinned : Pinned := { name := "ythjjakhmbgnnnaa", sum := "572f0ecb5601591550017531d042a7f49e24775138a5fda45ba342d728732834", checked := Try.checked }
namespace Rows
def none {H : Type} : Left H := { results := [], args := [] }

/-- 'shacklelaw07.RepairsLess': WHATEVER THE INPUT: true; the input reads as it did. -/
def repairsLessSpec : ChangeSpec := { name := "repairsLess", fn := fun _ => fun
  | [d1, d2, d3] => { results := [.lit (.bool true)], args := [d1, d2, d3] }
  | _ => none }
def repairsLessRow : OpenClaim := { program := "ythjjakhmbgnnnaa", sum := "572f0ecb5601591550017531d042a7f49e24775138a5fda45ba342d728732834", func := "shackle/shacklelaw07.RepairsLess", spec := "repairsLess", unfollowed := true, recurses := true, apart := false }
def RepairsLessSaid : Prop := repairsLessRow.holds Try.pinned (OpenSpec.ofChange repairsLessSpec)

/-- ITS FALSE NEIGHBOUR: 'it returns false'. Refute it at one input. -/
def repairsLessWrong : ChangeSpec := { name := "repairsLess", fn := fun _ => fun
  | [d1, d2, d3] => { results := [.lit (.bool false)], args := [d1, d2, d3] }
  | _ => none }
def RepairsLessWrongFalsely : Prop := repairsLessRow.holds Try.pinned (OpenSpec.ofChange repairsLessWrong)

/-- 'shacklelaw07.RepairsPrices': WHATEVER THE INPUT: true; the input reads as it did. -/
def repairsPricesSpec : ChangeSpec := { name := "repairsPrices", fn := fun _ => fun
  | [d1, d2, d3] => { results := [.lit (.bool true)], args := [d1, d2, d3] }
  | _ => none }
def repairsPricesRow : OpenClaim := { program := "ythjjakhmbgnnnaa", sum := "572f0ecb5601591550017531d042a7f49e24775138a5fda45ba342d728732834", func := "shackle/shacklelaw07.RepairsPrices", spec := "repairsPrices", unfollowed := true, recurses := true, apart := false }
def RepairsPricesSaid : Prop := repairsPricesRow.holds Try.pinned (OpenSpec.ofChange repairsPricesSpec)

/-- ITS FALSE NEIGHBOUR: 'it returns false'. Refute it at one input. -/
def repairsPricesWrong : ChangeSpec := { name := "repairsPrices", fn := fun _ => fun
  | [d1, d2, d3] => { results := [.lit (.bool false)], args := [d1, d2, d3] }
  | _ => none }
def RepairsPricesWrongFalsely : Prop := repairsPricesRow.holds Try.pinned (OpenSpec.ofChange repairsPricesWrong)

/-- 'shacklelaw07.RepairsStrong': WHATEVER THE INPUT: true; the input reads as it did. -/
def repairsStrongSpec : ChangeSpec := { name := "repairsStrong", fn := fun _ => fun
  | [d1, d2, d3] => { results := [.lit (.bool true)], args := [d1, d2, d3] }
  | _ => none }
def repairsStrongRow : OpenClaim := { program := "ythjjakhmbgnnnaa", sum := "572f0ecb5601591550017531d042a7f49e24775138a5fda45ba342d728732834", func := "shackle/shacklelaw07.RepairsStrong", spec := "repairsStrong", unfollowed := true, recurses := true, apart := false }
def RepairsStrongSaid : Prop := repairsStrongRow.holds Try.pinned (OpenSpec.ofChange repairsStrongSpec)

/-- ITS FALSE NEIGHBOUR: 'it returns false'. Refute it at one input. -/
def repairsStrongWrong : ChangeSpec := { name := "repairsStrong", fn := fun _ => fun
  | [d1, d2, d3] => { results := [.lit (.bool false)], args := [d1, d2, d3] }
  | _ => none }
def RepairsStrongWrongFalsely : Prop := repairsStrongRow.holds Try.pinned (OpenSpec.ofChange repairsStrongWrong)

/-- 'shacklelaw07.RepairsCheapest': WHATEVER THE INPUT: true; the input reads as it did. -/
def repairsCheapestSpec : ChangeSpec := { name := "repairsCheapest", fn := fun _ => fun
  | [d1, d2] => { results := [.lit (.bool true)], args := [d1, d2] }
  | _ => none }
def repairsCheapestRow : OpenClaim := { program := "ythjjakhmbgnnnaa", sum := "572f0ecb5601591550017531d042a7f49e24775138a5fda45ba342d728732834", func := "shackle/shacklelaw07.RepairsCheapest", spec := "repairsCheapest", unfollowed := true, recurses := true, apart := false }
def RepairsCheapestSaid : Prop := repairsCheapestRow.holds Try.pinned (OpenSpec.ofChange repairsCheapestSpec)

/-- ITS FALSE NEIGHBOUR: 'it returns false'. Refute it at one input. -/
def repairsCheapestWrong : ChangeSpec := { name := "repairsCheapest", fn := fun _ => fun
  | [d1, d2] => { results := [.lit (.bool false)], args := [d1, d2] }
  | _ => none }
def RepairsCheapestWrongFalsely : Prop := repairsCheapestRow.holds Try.pinned (OpenSpec.ofChange repairsCheapestWrong)

/-- 'shacklelaw07.RepairsLonger': WHATEVER THE INPUT: true; the input reads as it did. -/
def repairsLongerSpec : ChangeSpec := { name := "repairsLonger", fn := fun _ => fun
  | [d1, d2, d3] => { results := [.lit (.bool true)], args := [d1, d2, d3] }
  | _ => none }
def repairsLongerRow : OpenClaim := { program := "ythjjakhmbgnnnaa", sum := "572f0ecb5601591550017531d042a7f49e24775138a5fda45ba342d728732834", func := "shackle/shacklelaw07.RepairsLonger", spec := "repairsLonger", unfollowed := true, recurses := true, apart := false }
def RepairsLongerSaid : Prop := repairsLongerRow.holds Try.pinned (OpenSpec.ofChange repairsLongerSpec)

/-- ITS FALSE NEIGHBOUR: 'it returns false'. Refute it at one input. -/
def repairsLongerWrong : ChangeSpec := { name := "repairsLonger", fn := fun _ => fun
  | [d1, d2, d3] => { results := [.lit (.bool false)], args := [d1, d2, d3] }
  | _ => none }
def RepairsLongerWrongFalsely : Prop := repairsLongerRow.holds Try.pinned (OpenSpec.ofChange repairsLongerWrong)

/-- 'shacklelaw07.RepairsGood': WHATEVER THE INPUT: true; the input reads as it did. -/
def repairsGoodSpec : ChangeSpec := { name := "repairsGood", fn := fun _ => fun
  | [d1, d2] => { results := [.lit (.bool true)], args := [d1, d2] }
  | _ => none }
def repairsGoodRow : OpenClaim := { program := "ythjjakhmbgnnnaa", sum := "572f0ecb5601591550017531d042a7f49e24775138a5fda45ba342d728732834", func := "shackle/shacklelaw07.RepairsGood", spec := "repairsGood", unfollowed := true, recurses := true, apart := false }
def RepairsGoodSaid : Prop := repairsGoodRow.holds Try.pinned (OpenSpec.ofChange repairsGoodSpec)

/-- ITS FALSE NEIGHBOUR: 'it returns false'. Refute it at one input. -/
def repairsGoodWrong : ChangeSpec := { name := "repairsGood", fn := fun _ => fun
  | [d1, d2] => { results := [.lit (.bool false)], args := [d1, d2] }
  | _ => none }
def RepairsGoodWrongFalsely : Prop := repairsGoodRow.holds Try.pinned (OpenSpec.ofChange repairsGoodWrong)

/-- 'shacklelaw07.RepairsFewest': WHATEVER THE INPUT: true; the input reads as it did. -/
def repairsFewestSpec : ChangeSpec := { name := "repairsFewest", fn := fun _ => fun
  | [d] => { results := [.lit (.bool true)], args := [d] }
  | _ => none }
def repairsFewestRow : OpenClaim := { program := "ythjjakhmbgnnnaa", sum := "572f0ecb5601591550017531d042a7f49e24775138a5fda45ba342d728732834", func := "shackle/shacklelaw07.RepairsFewest", spec := "repairsFewest", unfollowed := true, recurses := true, apart := false }
def RepairsFewestSaid : Prop := repairsFewestRow.holds Try.pinned (OpenSpec.ofChange repairsFewestSpec)

/-- ITS FALSE NEIGHBOUR: 'it returns false'. Refute it at one input. -/
def repairsFewestWrong : ChangeSpec := { name := "repairsFewest", fn := fun _ => fun
  | [d] => { results := [.lit (.bool false)], args := [d] }
  | _ => none }
def RepairsFewestWrongFalsely : Prop := repairsFewestRow.holds Try.pinned (OpenSpec.ofChange repairsFewestWrong)

/-- 'shacklelaw07.RepairsEach': WHATEVER THE INPUT: true; the input reads as it did. -/
def repairsEachSpec : ChangeSpec := { name := "repairsEach", fn := fun _ => fun
  | [d1, d2, d3] => { results := [.lit (.bool true)], args := [d1, d2, d3] }
  | _ => none }
def repairsEachRow : OpenClaim := { program := "ythjjakhmbgnnnaa", sum := "572f0ecb5601591550017531d042a7f49e24775138a5fda45ba342d728732834", func := "shackle/shacklelaw07.RepairsEach", spec := "repairsEach", unfollowed := true, recurses := true, apart := false }
def RepairsEachSaid : Prop := repairsEachRow.holds Try.pinned (OpenSpec.ofChange repairsEachSpec)

/-- ITS FALSE NEIGHBOUR: 'it returns false'. Refute it at one input. -/
def repairsEachWrong : ChangeSpec := { name := "repairsEach", fn := fun _ => fun
  | [d1, d2, d3] => { results := [.lit (.bool false)], args := [d1, d2, d3] }
  | _ => none }
def RepairsEachWrongFalsely : Prop := repairsEachRow.holds Try.pinned (OpenSpec.ofChange repairsEachWrong)

/-- 'shacklelaw07.RepairsBack': WHATEVER THE INPUT: true; the input reads as it did. -/
def repairsBackSpec : ChangeSpec := { name := "repairsBack", fn := fun _ => fun
  | [d1, d2, d3] => { results := [.lit (.bool true)], args := [d1, d2, d3] }
  | _ => none }
def repairsBackRow : OpenClaim := { program := "ythjjakhmbgnnnaa", sum := "572f0ecb5601591550017531d042a7f49e24775138a5fda45ba342d728732834", func := "shackle/shacklelaw07.RepairsBack", spec := "repairsBack", unfollowed := true, recurses := true, apart := false }
def RepairsBackSaid : Prop := repairsBackRow.holds Try.pinned (OpenSpec.ofChange repairsBackSpec)

/-- ITS FALSE NEIGHBOUR: 'it returns false'. Refute it at one input. -/
def repairsBackWrong : ChangeSpec := { name := "repairsBack", fn := fun _ => fun
  | [d1, d2, d3] => { results := [.lit (.bool false)], args := [d1, d2, d3] }
  | _ => none }
def RepairsBackWrongFalsely : Prop := repairsBackRow.holds Try.pinned (OpenSpec.ofChange repairsBackWrong)

/- THE SECOND FORM. 'bulk': how many values and letters a reading holds, each counted each time it is reached (what is shared counts as often as it is met; a slice's spare places count too). A statement '..UptoSaid' is the law's where the arguments, and the package variables that the reading takes, are together of bulk at most 1048576: NARROWER than '..Said'. Prove '..Said' where nothing that the law and all that it calls make is longer than what came in: it says more and counts as full. Else prove '..UptoSaid'. A law counts once. -/
mutual
def uptoBulk {H : Type} : DataW H → Nat
  | .lit (.string bytes) => bytes.length + 1
  | .lit _ => 1
  | .nil => 1
  | .ptr d => uptoBulk d + 1
  | .slice elems spare => uptoBulkAll elems + uptoBulkAll spare + 1
  | .agg parts => uptoBulkAll parts + 1
  | .iface _ d => uptoBulk d + 1
  | .map entries => uptoBulkEntries entries + 1
  | .held _ => 1
def uptoBulkAll {H : Type} : List (DataW H) → Nat
  | [] => 0
  | d :: r => uptoBulk d + uptoBulkAll r
def uptoBulkEntries {H : Type} : List (Lit × DataW H) → Nat
  | [] => 0
  | x :: r => uptoBulkEntry x + uptoBulkEntries r
def uptoBulkEntry {H : Type} : Lit × DataW H → Nat
  | (.string bytes, d) => bytes.length + uptoBulk d + 1
  | (_, d) => uptoBulk d + 1
 end
def uptoSmall : (H : Type) → List (DataW H) → Bool := fun _ ds => decide (uptoBulkAll ds ≤ 1048576)
def OpenSpec.upto (s : _root_.Go.ChangeSpec) : _root_.Go.OpenSpec := { _root_.Go.OpenSpec.ofChange s with cond := some uptoSmall }

/-- 'shacklelaw07.RepairsLess', WHERE WHAT IT READS IS OF BULK AT MOST 1048576: true; the input reads as it did. -/
def repairsLessUptoRow : OpenClaim := { program := "ythjjakhmbgnnnaa", sum := "572f0ecb5601591550017531d042a7f49e24775138a5fda45ba342d728732834", func := "shackle/shacklelaw07.RepairsLess", spec := "repairsLess", unfollowed := true, recurses := true, apart := false, narrowed := true }
def RepairsLessUptoSaid : Prop := repairsLessUptoRow.holds Try.pinned (OpenSpec.upto repairsLessSpec)

/-- 'shacklelaw07.RepairsPrices', WHERE WHAT IT READS IS OF BULK AT MOST 1048576: true; the input reads as it did. -/
def repairsPricesUptoRow : OpenClaim := { program := "ythjjakhmbgnnnaa", sum := "572f0ecb5601591550017531d042a7f49e24775138a5fda45ba342d728732834", func := "shackle/shacklelaw07.RepairsPrices", spec := "repairsPrices", unfollowed := true, recurses := true, apart := false, narrowed := true }
def RepairsPricesUptoSaid : Prop := repairsPricesUptoRow.holds Try.pinned (OpenSpec.upto repairsPricesSpec)

/-- 'shacklelaw07.RepairsStrong', WHERE WHAT IT READS IS OF BULK AT MOST 1048576: true; the input reads as it did. -/
def repairsStrongUptoRow : OpenClaim := { program := "ythjjakhmbgnnnaa", sum := "572f0ecb5601591550017531d042a7f49e24775138a5fda45ba342d728732834", func := "shackle/shacklelaw07.RepairsStrong", spec := "repairsStrong", unfollowed := true, recurses := true, apart := false, narrowed := true }
def RepairsStrongUptoSaid : Prop := repairsStrongUptoRow.holds Try.pinned (OpenSpec.upto repairsStrongSpec)

/-- 'shacklelaw07.RepairsCheapest', WHERE WHAT IT READS IS OF BULK AT MOST 1048576: true; the input reads as it did. -/
def repairsCheapestUptoRow : OpenClaim := { program := "ythjjakhmbgnnnaa", sum := "572f0ecb5601591550017531d042a7f49e24775138a5fda45ba342d728732834", func := "shackle/shacklelaw07.RepairsCheapest", spec := "repairsCheapest", unfollowed := true, recurses := true, apart := false, narrowed := true }
def RepairsCheapestUptoSaid : Prop := repairsCheapestUptoRow.holds Try.pinned (OpenSpec.upto repairsCheapestSpec)

/-- 'shacklelaw07.RepairsLonger', WHERE WHAT IT READS IS OF BULK AT MOST 1048576: true; the input reads as it did. -/
def repairsLongerUptoRow : OpenClaim := { program := "ythjjakhmbgnnnaa", sum := "572f0ecb5601591550017531d042a7f49e24775138a5fda45ba342d728732834", func := "shackle/shacklelaw07.RepairsLonger", spec := "repairsLonger", unfollowed := true, recurses := true, apart := false, narrowed := true }
def RepairsLongerUptoSaid : Prop := repairsLongerUptoRow.holds Try.pinned (OpenSpec.upto repairsLongerSpec)

/-- 'shacklelaw07.RepairsGood', WHERE WHAT IT READS IS OF BULK AT MOST 1048576: true; the input reads as it did. -/
def repairsGoodUptoRow : OpenClaim := { program := "ythjjakhmbgnnnaa", sum := "572f0ecb5601591550017531d042a7f49e24775138a5fda45ba342d728732834", func := "shackle/shacklelaw07.RepairsGood", spec := "repairsGood", unfollowed := true, recurses := true, apart := false, narrowed := true }
def RepairsGoodUptoSaid : Prop := repairsGoodUptoRow.holds Try.pinned (OpenSpec.upto repairsGoodSpec)

/-- 'shacklelaw07.RepairsFewest', WHERE WHAT IT READS IS OF BULK AT MOST 1048576: true; the input reads as it did. -/
def repairsFewestUptoRow : OpenClaim := { program := "ythjjakhmbgnnnaa", sum := "572f0ecb5601591550017531d042a7f49e24775138a5fda45ba342d728732834", func := "shackle/shacklelaw07.RepairsFewest", spec := "repairsFewest", unfollowed := true, recurses := true, apart := false, narrowed := true }
def RepairsFewestUptoSaid : Prop := repairsFewestUptoRow.holds Try.pinned (OpenSpec.upto repairsFewestSpec)

/-- 'shacklelaw07.RepairsEach', WHERE WHAT IT READS IS OF BULK AT MOST 1048576: true; the input reads as it did. -/
def repairsEachUptoRow : OpenClaim := { program := "ythjjakhmbgnnnaa", sum := "572f0ecb5601591550017531d042a7f49e24775138a5fda45ba342d728732834", func := "shackle/shacklelaw07.RepairsEach", spec := "repairsEach", unfollowed := true, recurses := true, apart := false, narrowed := true }
def RepairsEachUptoSaid : Prop := repairsEachUptoRow.holds Try.pinned (OpenSpec.upto repairsEachSpec)

/-- 'shacklelaw07.RepairsBack', WHERE WHAT IT READS IS OF BULK AT MOST 1048576: true; the input reads as it did. -/
def repairsBackUptoRow : OpenClaim := { program := "ythjjakhmbgnnnaa", sum := "572f0ecb5601591550017531d042a7f49e24775138a5fda45ba342d728732834", func := "shackle/shacklelaw07.RepairsBack", spec := "repairsBack", unfollowed := true, recurses := true, apart := false, narrowed := true }
def RepairsBackUptoSaid : Prop := repairsBackUptoRow.holds Try.pinned (OpenSpec.upto repairsBackSpec)

end Rows
end Go.Proofs.Ythjjakhmbgnnnaa
