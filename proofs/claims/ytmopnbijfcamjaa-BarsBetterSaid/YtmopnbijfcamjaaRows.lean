/-
  No cell of these rows narrows 'for every input' (looked for: loops, veiled, ifaces, maps, wideKeys, modest, calm, conditions, laid).
  DERIVED. THE GIVEN ROWS OF THIS SEAT. 10 by the template 'for every input the law returns true; each argument reads behind the call as it read before'; 0 by the template 'total and deterministic' (their statements: YtmopnbijfcamjaaTotals.lean).
  GIVEN WITH THE SEED: the statements are not yours to turn. If you find one false, say at which input.
  Laid BY PROGRAM, IN A SANDBOX (cutbox-rows.mjs): the forced cells as the released guide's own fill.sh prints them over the translation fb97a2080dc49d35… (all of the seat's roots in one cut). By AI agents, Wed Nov 11 2026. No macro, syntax, notation, axiom, sorry.
-/
import Derived.Test.YtmopnbijfcamjaaChecked
import GoSem.Claim
import GoSem.ClaimJoined
import GoSem.ClaimMapViews
import Derived.JoinedTies
import Derived.KernelRfl
namespace Go.Proofs.Ytmopnbijfcamjaa
/- THE CELL 'sum', in the pinned program and in every row, IS THE sha256 OF THE DUMP (.gsa) THAT YtmopnbijfcamjaaProg.lean LOADS. Nothing in Lean hashes anything: it is a label: what it is worth is what the hold of that sum in a sandbox is worth. -/
noncomputable def Try.pinned : Pinned := { name := "ytmopnbijfcamjaa", sum := "fb97a2080dc49d35bbd27b5cdc8dd238beed25dff124820e927be2e7c6114664", checked := Try.checked }
namespace Rows
def none {H : Type} : Left H := { results := [], args := [] }

/-- 'shacklelaw01.BarsTwo': WHATEVER THE INPUT: true; the input reads as it did. -/
def barsTwoSpec : ChangeSpec := { name := "barsTwo", fn := fun _ => fun
  | [d1, d2] => { results := [.lit (.bool true)], args := [d1, d2] }
  | _ => none }
def barsTwoRow : OpenClaim := { program := "ytmopnbijfcamjaa", sum := "fb97a2080dc49d35bbd27b5cdc8dd238beed25dff124820e927be2e7c6114664", func := "shackle/shacklelaw01.BarsTwo", spec := "barsTwo", unfollowed := true, recurses := true, apart := false }
def BarsTwoSaid : Prop := barsTwoRow.holds Try.pinned (OpenSpec.ofChange barsTwoSpec)

/-- ITS FALSE NEIGHBOUR: 'it returns false'. Refute it at one input. -/
def barsTwoWrong : ChangeSpec := { name := "barsTwo", fn := fun _ => fun
  | [d1, d2] => { results := [.lit (.bool false)], args := [d1, d2] }
  | _ => none }
def BarsTwoWrongFalsely : Prop := barsTwoRow.holds Try.pinned (OpenSpec.ofChange barsTwoWrong)

/-- 'shacklelaw01.BarsRoom': WHATEVER THE INPUT: true; the input reads as it did. -/
def barsRoomSpec : ChangeSpec := { name := "barsRoom", fn := fun _ => fun
  | [d1, d2] => { results := [.lit (.bool true)], args := [d1, d2] }
  | _ => none }
def barsRoomRow : OpenClaim := { program := "ytmopnbijfcamjaa", sum := "fb97a2080dc49d35bbd27b5cdc8dd238beed25dff124820e927be2e7c6114664", func := "shackle/shacklelaw01.BarsRoom", spec := "barsRoom", unfollowed := true, recurses := true, apart := false }
def BarsRoomSaid : Prop := barsRoomRow.holds Try.pinned (OpenSpec.ofChange barsRoomSpec)

/-- ITS FALSE NEIGHBOUR: 'it returns false'. Refute it at one input. -/
def barsRoomWrong : ChangeSpec := { name := "barsRoom", fn := fun _ => fun
  | [d1, d2] => { results := [.lit (.bool false)], args := [d1, d2] }
  | _ => none }
def BarsRoomWrongFalsely : Prop := barsRoomRow.holds Try.pinned (OpenSpec.ofChange barsRoomWrong)

/-- 'shacklelaw01.BarsPlan': WHATEVER THE INPUT: true; the input reads as it did. -/
def barsPlanSpec : ChangeSpec := { name := "barsPlan", fn := fun _ => fun
  | [d] => { results := [.lit (.bool true)], args := [d] }
  | _ => none }
def barsPlanRow : OpenClaim := { program := "ytmopnbijfcamjaa", sum := "fb97a2080dc49d35bbd27b5cdc8dd238beed25dff124820e927be2e7c6114664", func := "shackle/shacklelaw01.BarsPlan", spec := "barsPlan", unfollowed := true, recurses := true, apart := false }
def BarsPlanSaid : Prop := barsPlanRow.holds Try.pinned (OpenSpec.ofChange barsPlanSpec)

/-- ITS FALSE NEIGHBOUR: 'it returns false'. Refute it at one input. -/
def barsPlanWrong : ChangeSpec := { name := "barsPlan", fn := fun _ => fun
  | [d] => { results := [.lit (.bool false)], args := [d] }
  | _ => none }
def BarsPlanWrongFalsely : Prop := barsPlanRow.holds Try.pinned (OpenSpec.ofChange barsPlanWrong)

/-- 'shacklelaw01.BarsAlike': WHATEVER THE INPUT: true; the input reads as it did. -/
def barsAlikeSpec : ChangeSpec := { name := "barsAlike", fn := fun _ => fun
  | [d1, d2] => { results := [.lit (.bool true)], args := [d1, d2] }
  | _ => none }
def barsAlikeRow : OpenClaim := { program := "ytmopnbijfcamjaa", sum := "fb97a2080dc49d35bbd27b5cdc8dd238beed25dff124820e927be2e7c6114664", func := "shackle/shacklelaw01.BarsAlike", spec := "barsAlike", unfollowed := true, recurses := true, apart := false }
def BarsAlikeSaid : Prop := barsAlikeRow.holds Try.pinned (OpenSpec.ofChange barsAlikeSpec)

/-- ITS FALSE NEIGHBOUR: 'it returns false'. Refute it at one input. -/
def barsAlikeWrong : ChangeSpec := { name := "barsAlike", fn := fun _ => fun
  | [d1, d2] => { results := [.lit (.bool false)], args := [d1, d2] }
  | _ => none }
def BarsAlikeWrongFalsely : Prop := barsAlikeRow.holds Try.pinned (OpenSpec.ofChange barsAlikeWrong)

/-- 'shacklelaw01.BarsLonger': WHATEVER THE INPUT: true; the input reads as it did. -/
def barsLongerSpec : ChangeSpec := { name := "barsLonger", fn := fun _ => fun
  | [d1, d2] => { results := [.lit (.bool true)], args := [d1, d2] }
  | _ => none }
def barsLongerRow : OpenClaim := { program := "ytmopnbijfcamjaa", sum := "fb97a2080dc49d35bbd27b5cdc8dd238beed25dff124820e927be2e7c6114664", func := "shackle/shacklelaw01.BarsLonger", spec := "barsLonger", unfollowed := true, recurses := true, apart := false }
def BarsLongerSaid : Prop := barsLongerRow.holds Try.pinned (OpenSpec.ofChange barsLongerSpec)

/-- ITS FALSE NEIGHBOUR: 'it returns false'. Refute it at one input. -/
def barsLongerWrong : ChangeSpec := { name := "barsLonger", fn := fun _ => fun
  | [d1, d2] => { results := [.lit (.bool false)], args := [d1, d2] }
  | _ => none }
def BarsLongerWrongFalsely : Prop := barsLongerRow.holds Try.pinned (OpenSpec.ofChange barsLongerWrong)

/-- 'shacklelaw01.BarsBetter': WHATEVER THE INPUT: true; the input reads as it did. -/
def barsBetterSpec : ChangeSpec := { name := "barsBetter", fn := fun _ => fun
  | [d1, d2, d3] => { results := [.lit (.bool true)], args := [d1, d2, d3] }
  | _ => none }
def barsBetterRow : OpenClaim := { program := "ytmopnbijfcamjaa", sum := "fb97a2080dc49d35bbd27b5cdc8dd238beed25dff124820e927be2e7c6114664", func := "shackle/shacklelaw01.BarsBetter", spec := "barsBetter", unfollowed := true, recurses := true, apart := false }
def BarsBetterSaid : Prop := barsBetterRow.holds Try.pinned (OpenSpec.ofChange barsBetterSpec)

/-- ITS FALSE NEIGHBOUR: 'it returns false'. Refute it at one input. -/
def barsBetterWrong : ChangeSpec := { name := "barsBetter", fn := fun _ => fun
  | [d1, d2, d3] => { results := [.lit (.bool false)], args := [d1, d2, d3] }
  | _ => none }
def BarsBetterWrongFalsely : Prop := barsBetterRow.holds Try.pinned (OpenSpec.ofChange barsBetterWrong)

/-- 'shacklelaw01.BarsOf': WHATEVER THE INPUT: true; the input reads as it did. -/
def barsOfSpec : ChangeSpec := { name := "barsOf", fn := fun _ => fun
  | [d1, d2] => { results := [.lit (.bool true)], args := [d1, d2] }
  | _ => none }
def barsOfRow : OpenClaim := { program := "ytmopnbijfcamjaa", sum := "fb97a2080dc49d35bbd27b5cdc8dd238beed25dff124820e927be2e7c6114664", func := "shackle/shacklelaw01.BarsOf", spec := "barsOf", unfollowed := true, recurses := true, apart := false }
def BarsOfSaid : Prop := barsOfRow.holds Try.pinned (OpenSpec.ofChange barsOfSpec)

/-- ITS FALSE NEIGHBOUR: 'it returns false'. Refute it at one input. -/
def barsOfWrong : ChangeSpec := { name := "barsOf", fn := fun _ => fun
  | [d1, d2] => { results := [.lit (.bool false)], args := [d1, d2] }
  | _ => none }
def BarsOfWrongFalsely : Prop := barsOfRow.holds Try.pinned (OpenSpec.ofChange barsOfWrong)

/-- 'shacklelaw01.BarsOrder': WHATEVER THE INPUT: true; the input reads as it did. -/
def barsOrderSpec : ChangeSpec := { name := "barsOrder", fn := fun _ => fun
  | [d1, d2, d3] => { results := [.lit (.bool true)], args := [d1, d2, d3] }
  | _ => none }
def barsOrderRow : OpenClaim := { program := "ytmopnbijfcamjaa", sum := "fb97a2080dc49d35bbd27b5cdc8dd238beed25dff124820e927be2e7c6114664", func := "shackle/shacklelaw01.BarsOrder", spec := "barsOrder", unfollowed := true, recurses := true, apart := false }
def BarsOrderSaid : Prop := barsOrderRow.holds Try.pinned (OpenSpec.ofChange barsOrderSpec)

/-- ITS FALSE NEIGHBOUR: 'it returns false'. Refute it at one input. -/
def barsOrderWrong : ChangeSpec := { name := "barsOrder", fn := fun _ => fun
  | [d1, d2, d3] => { results := [.lit (.bool false)], args := [d1, d2, d3] }
  | _ => none }
def BarsOrderWrongFalsely : Prop := barsOrderRow.holds Try.pinned (OpenSpec.ofChange barsOrderWrong)

/-- 'shacklelaw01.BarsFits': WHATEVER THE INPUT: true; the input reads as it did. -/
def barsFitsSpec : ChangeSpec := { name := "barsFits", fn := fun _ => fun
  | [d1, d2] => { results := [.lit (.bool true)], args := [d1, d2] }
  | _ => none }
def barsFitsRow : OpenClaim := { program := "ytmopnbijfcamjaa", sum := "fb97a2080dc49d35bbd27b5cdc8dd238beed25dff124820e927be2e7c6114664", func := "shackle/shacklelaw01.BarsFits", spec := "barsFits", unfollowed := true, recurses := true, apart := false }
def BarsFitsSaid : Prop := barsFitsRow.holds Try.pinned (OpenSpec.ofChange barsFitsSpec)

/-- ITS FALSE NEIGHBOUR: 'it returns false'. Refute it at one input. -/
def barsFitsWrong : ChangeSpec := { name := "barsFits", fn := fun _ => fun
  | [d1, d2] => { results := [.lit (.bool false)], args := [d1, d2] }
  | _ => none }
def BarsFitsWrongFalsely : Prop := barsFitsRow.holds Try.pinned (OpenSpec.ofChange barsFitsWrong)

/-- 'shacklelaw01.BarsTrue': WHATEVER THE INPUT: true; the input reads as it did. -/
def barsTrueSpec : ChangeSpec := { name := "barsTrue", fn := fun _ => fun
  | [d1, d2, d3] => { results := [.lit (.bool true)], args := [d1, d2, d3] }
  | _ => none }
def barsTrueRow : OpenClaim := { program := "ytmopnbijfcamjaa", sum := "fb97a2080dc49d35bbd27b5cdc8dd238beed25dff124820e927be2e7c6114664", func := "shackle/shacklelaw01.BarsTrue", spec := "barsTrue", unfollowed := true, recurses := true, apart := false }
def BarsTrueSaid : Prop := barsTrueRow.holds Try.pinned (OpenSpec.ofChange barsTrueSpec)

/-- ITS FALSE NEIGHBOUR: 'it returns false'. Refute it at one input. -/
def barsTrueWrong : ChangeSpec := { name := "barsTrue", fn := fun _ => fun
  | [d1, d2, d3] => { results := [.lit (.bool false)], args := [d1, d2, d3] }
  | _ => none }
def BarsTrueWrongFalsely : Prop := barsTrueRow.holds Try.pinned (OpenSpec.ofChange barsTrueWrong)

/- THE SECOND FORM. 'bulk': how many values and letters a reading holds, each counted each time it is reached (what is shared counts as often as it is met; a slice's spare places count too). A statement '..UptoSaid' is the law's where the arguments, and the package variables that the reading takes, are together of bulk at most 1048576: NARROWER than '..Said'. Prove '..Said' where nothing that the law and all that it calls make is longer than what came in: it says more and counts as full. Else prove '..UptoSaid'. A law counts once. -/
mutual
def uptoBulk {H : Type} : DataW H → Nat
  | .lit (.string bytes) => bytes.length + 1
  | .lit _ => 1
  | .nil => 1
  | .ptr d => uptoBulk d + 1
  | .slice elems spare => uptoBulkAll elems + uptoBulkAll spare + 1
  | .agg parts => uptoBulkAll parts + 1
  | .iface _ d => uptoBulk d + 1
  | .map entries => uptoBulkEntries entries + 1
  | .held _ => 1
def uptoBulkAll {H : Type} : List (DataW H) → Nat
  | [] => 0
  | d :: r => uptoBulk d + uptoBulkAll r
def uptoBulkEntries {H : Type} : List (Lit × DataW H) → Nat
  | [] => 0
  | x :: r => uptoBulkEntry x + uptoBulkEntries r
def uptoBulkEntry {H : Type} : Lit × DataW H → Nat
  | (.string bytes, d) => bytes.length + uptoBulk d + 1
  | (_, d) => uptoBulk d + 1
 end
def uptoSmall : (H : Type) → List (DataW H) → Bool := fun _ ds => decide (uptoBulkAll ds ≤ 1048576)
def OpenSpec.upto (s : _root_.Go.ChangeSpec) : _root_.Go.OpenSpec := { _root_.Go.OpenSpec.ofChange s with cond := some uptoSmall }

/-- 'shacklelaw01.BarsTwo', WHERE WHAT IT READS IS OF BULK AT MOST 1048576: true; the input reads as it did. -/
def barsTwoUptoRow : OpenClaim := { program := "ytmopnbijfcamjaa", sum := "fb97a2080dc49d35bbd27b5cdc8dd238beed25dff124820e927be2e7c6114664", func := "shackle/shacklelaw01.BarsTwo", spec := "barsTwo", unfollowed := true, recurses := true, apart := false, narrowed := true }
def BarsTwoUptoSaid : Prop := barsTwoUptoRow.holds Try.pinned (OpenSpec.upto barsTwoSpec)

/-- 'shacklelaw01.BarsRoom', WHERE WHAT IT READS IS OF BULK AT MOST 1048576: true; the input reads as it did. -/
def barsRoomUptoRow : OpenClaim := { program := "ytmopnbijfcamjaa", sum := "fb97a2080dc49d35bbd27b5cdc8dd238beed25dff124820e927be2e7c6114664", func := "shackle/shacklelaw01.BarsRoom", spec := "barsRoom", unfollowed := true, recurses := true, apart := false, narrowed := true }
def BarsRoomUptoSaid : Prop := barsRoomUptoRow.holds Try.pinned (OpenSpec.upto barsRoomSpec)

/-- 'shacklelaw01.BarsPlan', WHERE WHAT IT READS IS OF BULK AT MOST 1048576: true; the input reads as it did. -/
def barsPlanUptoRow : OpenClaim := { program := "ytmopnbijfcamjaa", sum := "fb97a2080dc49d35bbd27b5cdc8dd238beed25dff124820e927be2e7c6114664", func := "shackle/shacklelaw01.BarsPlan", spec := "barsPlan", unfollowed := true, recurses := true, apart := false, narrowed := true }
def BarsPlanUptoSaid : Prop := barsPlanUptoRow.holds Try.pinned (OpenSpec.upto barsPlanSpec)

/-- 'shacklelaw01.BarsAlike', WHERE WHAT IT READS IS OF BULK AT MOST 1048576: true; the input reads as it did. -/
def barsAlikeUptoRow : OpenClaim := { program := "ytmopnbijfcamjaa", sum := "fb97a2080dc49d35bbd27b5cdc8dd238beed25dff124820e927be2e7c6114664", func := "shackle/shacklelaw01.BarsAlike", spec := "barsAlike", unfollowed := true, recurses := true, apart := false, narrowed := true }
def BarsAlikeUptoSaid : Prop := barsAlikeUptoRow.holds Try.pinned (OpenSpec.upto barsAlikeSpec)

/-- 'shacklelaw01.BarsLonger', WHERE WHAT IT READS IS OF BULK AT MOST 1048576: true; the input reads as it did. -/
def barsLongerUptoRow : OpenClaim := { program := "ytmopnbijfcamjaa", sum := "fb97a2080dc49d35bbd27b5cdc8dd238beed25dff124820e927be2e7c6114664", func := "shackle/shacklelaw01.BarsLonger", spec := "barsLonger", unfollowed := true, recurses := true, apart := false, narrowed := true }
def BarsLongerUptoSaid : Prop := barsLongerUptoRow.holds Try.pinned (OpenSpec.upto barsLongerSpec)

/-- 'shacklelaw01.BarsBetter', WHERE WHAT IT READS IS OF BULK AT MOST 1048576: true; the input reads as it did. -/
def barsBetterUptoRow : OpenClaim := { program := "ytmopnbijfcamjaa", sum := "fb97a2080dc49d35bbd27b5cdc8dd238beed25dff124820e927be2e7c6114664", func := "shackle/shacklelaw01.BarsBetter", spec := "barsBetter", unfollowed := true, recurses := true, apart := false, narrowed := true }
def BarsBetterUptoSaid : Prop := barsBetterUptoRow.holds Try.pinned (OpenSpec.upto barsBetterSpec)

/-- 'shacklelaw01.BarsOf', WHERE WHAT IT READS IS OF BULK AT MOST 1048576: true; the input reads as it did. -/
def barsOfUptoRow : OpenClaim := { program := "ytmopnbijfcamjaa", sum := "fb97a2080dc49d35bbd27b5cdc8dd238beed25dff124820e927be2e7c6114664", func := "shackle/shacklelaw01.BarsOf", spec := "barsOf", unfollowed := true, recurses := true, apart := false, narrowed := true }
def BarsOfUptoSaid : Prop := barsOfUptoRow.holds Try.pinned (OpenSpec.upto barsOfSpec)

/-- 'shacklelaw01.BarsOrder', WHERE WHAT IT READS IS OF BULK AT MOST 1048576: true; the input reads as it did. -/
def barsOrderUptoRow : OpenClaim := { program := "ytmopnbijfcamjaa", sum := "fb97a2080dc49d35bbd27b5cdc8dd238beed25dff124820e927be2e7c6114664", func := "shackle/shacklelaw01.BarsOrder", spec := "barsOrder", unfollowed := true, recurses := true, apart := false, narrowed := true }
def BarsOrderUptoSaid : Prop := barsOrderUptoRow.holds Try.pinned (OpenSpec.upto barsOrderSpec)

/-- 'shacklelaw01.BarsFits', WHERE WHAT IT READS IS OF BULK AT MOST 1048576: true; the input reads as it did. -/
def barsFitsUptoRow : OpenClaim := { program := "ytmopnbijfcamjaa", sum := "fb97a2080dc49d35bbd27b5cdc8dd238beed25dff124820e927be2e7c6114664", func := "shackle/shacklelaw01.BarsFits", spec := "barsFits", unfollowed := true, recurses := true, apart := false, narrowed := true }
def BarsFitsUptoSaid : Prop := barsFitsUptoRow.holds Try.pinned (OpenSpec.upto barsFitsSpec)

/-- 'shacklelaw01.BarsTrue', WHERE WHAT IT READS IS OF BULK AT MOST 1048576: true; the input reads as it did. -/
def barsTrueUptoRow : OpenClaim := { program := "ytmopnbijfcamjaa", sum := "fb97a2080dc49d35bbd27b5cdc8dd238beed25dff124820e927be2e7c6114664", func := "shackle/shacklelaw01.BarsTrue", spec := "barsTrue", unfollowed := true, recurses := true, apart := false, narrowed := true }
def BarsTrueUptoSaid : Prop := barsTrueUptoRow.holds Try.pinned (OpenSpec.upto barsTrueSpec)

end Rows
end Go.Proofs.Ytmopnbijfcamjaa
