/- slices.Backward at []int: its iterator (layer 7). -/
import Derived.Test.YtglpgcgidkdkiaaQd04
import Derived.Test.YtglpgcgidkdkiaaQd05
namespace Go.Proofs.Ytglpgcgidkdkiaa
open Go.RowKit
open Go.Sort (grow)
set_option linter.unusedVariables false
set_option linter.unusedSimpArgs false

/-- what the iterator reads -/
structure BwMem (b1 : Nat) (A : Option Addr) (n c : Nat) (zs : List Int) (W : World) : Prop where
  q : W.cell? ⟨b1, 0, none⟩ = some (.slice A n c)
  H : IntsAt W A n zs
def BwAt (zs : List Int) (i : Nat) (args : Array Value) (W : World) : Prop := args = #[.int .i64 (i : Int), .int .i64 (iAt zs i)]
theorem back_get {n j : Nat} (h : j < n) : (List.range n).reverse[n - (j + 1)]? = some j := by
  rw [List.getElem?_reverse (by simp; omega), List.length_range, List.getElem?_range (by omega)]
  congr 1; omega
set_option maxRecDepth 100000 in
set_option maxHeartbeats 800000 in
theorem back1_c (b1 : Nat) (A : Option Addr) (n c : Nat) (zs : List Int) (hn : n ≤ 100) :
    IterC Try.prog 91 #[] #[.pointer (some ⟨b1, 0, none⟩)] (BwMem b1 A n c zs) (List.range n).reverse (BwAt zs) := by
  intro l J Jx W hM hS hY h0
  have HM := Lib.hid hM
  have HS := Lib.hid hS
  have HY := Lib.hid hY
  have M0 := (hM 0 W h0).q
  clear hM hS hY
  refine (callsIn_wide (n := 3)).1 (callsIn_of_wp Try.func91 rfl trivial ?_ rfl)
  simp only [Try.ntmps91, List.size_toArray, List.length_cons, List.length_nil, Nat.reduceAdd, Nat.reduceSub, Array.replicate_succ, Array.replicate_zero, List.push_toArray, List.append_toArray, List.nil_append, List.cons_append]
  gi_wp2
  clear M0
  gi_loopw [3] (fun i (wr : World) => ∃ (v : Int) (j : Nat), j ≤ n ∧ i = .int .i64 v ∧ v + 1 = j ∧ J (n - j) wr) (fun i _ => (intOf i + 1).toNat)
  case atStart => exact ⟨(n : Int) - 1, n, Nat.le_refl _, rfl, by omega, by rw [Nat.sub_self]; exact h0⟩
  case round =>
    obtain ⟨v, j, hj, rfl, hv, hJ⟩ := hrel
    clear h0
    have M1 := HM.out _ _ hJ
    have q1 := M1.q
    have HX := Lib.hid M1.H
    have HJ := Lib.hid hJ
    clear M1 hJ
    cases j with
    | zero =>
      obtain rfl : v = -1 := by omega
      gi_wp2
      go_end0
      exact ⟨⟨_, rfl⟩, .inl (by have := HJ.out; rw [List.length_reverse, List.length_range]; exact this)⟩
    | succ j =>
      obtain rfl : v = (j : Int) := by omega
      obtain ⟨b, o, hB, hb, x0⟩ := HX.out.get (show j < n by omega)
      subst hB
      have hjn : j < n := by omega
      have hjI : (j : Int) < n := by omega
      obtain ⟨fn, tmps, assign, body, hy, hR⟩ := HY.out (n - (j + 1)) j #[.int .i64 (j : Int), .int .i64 (iAt zs j)] wr (back_get hjn) HJ.out rfl
      rw [show n - (j + 1) + 1 = n - j by omega] at hR
      clear hv
      gi_wp2
      refine (hR _).mono ?_
      rintro e W4 (⟨rfl, hJ4⟩ | ⟨rfl, hJ4⟩)
      · have HJ4 := Lib.hid hJ4
        clear hJ4 hy hR
        gi_wp2
        go_roundw
        case rel => exact ⟨(j : Int) - 1, j, by omega, by simp, by omega, HJ4.out⟩
        case measure => simp [intOf]
      · have HJ4 := Lib.hid hJ4
        clear hJ4 hy hR
        gi_wp2
        refine bodyPost_ret (results_none rfl _ _ _) rfl ?_
        exact ⟨⟨_, rfl⟩, .inr HJ4.out⟩

end Go.Proofs.Ytglpgcgidkdkiaa
