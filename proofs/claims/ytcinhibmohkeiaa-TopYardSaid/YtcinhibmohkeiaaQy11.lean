/- bits.OnesCount of small sets. -/
import Derived.Test.YtcinhibmohkeiaaChecked
import Derived.Test.YtcinhibmohkeiaaQy10
namespace Go.Proofs.Ytcinhibmohkeiaa
open Go.RowKit
open Go.Sort (grow)
set_option linter.unusedVariables false
set_option linter.unusedSimpArgs false

def oc1 (x : Int) : Int := IntKind.u64.wrap (bits .and .u64 (x / 2) 6148914691236517205 + bits .and .u64 x 6148914691236517205)
def oc2 (x : Int) : Int := IntKind.u64.wrap (bits .and .u64 (x / 4) 3689348814741910323 + bits .and .u64 x 3689348814741910323)
def oc3 (x : Int) : Int := bits .and .u64 (IntKind.u64.wrap (x / 16 + x)) 1085102592571150095
def oc4 (x : Int) : Int := IntKind.u64.wrap (x + x / 256)
def oc5 (x : Int) : Int := IntKind.u64.wrap (x + x / 65536)
def oc6 (x : Int) : Int := IntKind.u64.wrap (x + x / 4294967296)
def oc7 (x : Int) : Int := bits .and .i64 (wrap64 x) 127
def oc (x : Int) : Int := oc7 (oc6 (oc5 (oc4 (oc3 (oc2 (oc1 x))))))
/-- how many of the first n bits are set -/
def cnt (n s : Nat) : Nat := ((List.range n).filter s.testBit).length
theorem oc_all : (List.range 256).all (fun s => oc s == cnt 8 s) = true := by decide +kernel
theorem oc_eq (s : Nat) (h : s < 256) : oc s = cnt 8 s := by
  have := List.all_eq_true.1 oc_all s (by simpa using h)
  simpa using this

set_option maxHeartbeats 400000 in
theorem ones64_c (s : Nat) (w : World) (hs : s < 256) :
    Calls Try.prog 68 #[.int .u64 s] w fun e w' => e = .returned (.int .i64 (cnt 8 s)) ∧ w = w' := by
  have H := Lib.hid (oc_eq s hs)
  go_enter Try.func68, Try.ntmps68
  go_wp2
  go_ret
  exact ⟨ret_int (by rw [← H.out]; rfl), rfl⟩

set_option maxHeartbeats 400000 in
theorem ones_c (s : Nat) (w : World) (hs : s < 256) :
    Calls Try.prog 62 #[.int .u64 s] w fun e w' => e = .returned (.int .i64 (cnt 8 s)) ∧ w = w' := by
  go_enter Try.func62, Try.ntmps62
  go_wp2_with (go_at_call 68; refine (ones64_c _ _ hs).mono ?_; rintro e w' ⟨rfl, rfl⟩)
  go_ret
  exact ⟨rfl, rfl⟩

end Go.Proofs.Ytcinhibmohkeiaa
