/- good of repairs (layer 7): all good repairs, one after the other, handed to a function. -/
import Derived.Test.YthjjakhmbgnnnaaGd7
namespace Go.Proofs.Ythjjakhmbgnnnaa
open Go.RowKit
open Go.Sort (grow)
set_option linter.unusedVariables false

set_option maxRecDepth 100000 in
set_option maxHeartbeats 1600000 in
theorem good_c (A : Option Addr) (n c g : Nat) (fst cap : Array Value) (q : Cb) (ls : List Sp) (w : World) (hn : n ≤ 12) (J : Nat → World → Prop)
    (h0 : J 0 (w.alloc (.cells #[.slice A n c, .int .i64 q.need, .int .i64 q.gap, .int .i64 q.doubt, .int .i64 q.joins, .int .i64 q.least] 24)))
    (hmem : ∀ k W, J k W → SpsAt W A n ls ∧ Blk W w.heap.size 24 #[.slice A n c, .int .i64 q.need, .int .i64 q.gap, .int .i64 q.doubt, .int .i64 q.joins, .int .i64 q.least])
    (hlater : ∀ k W W', J k W → Below W.heap.size W W' → J k W')
    (hskip : ∀ k W, k < 2 ^ n → goodB q ls n k = false → J k W → J (k + 1) W)
    (HE : ∀ args w, (callFunc g args).run Try.prog w = .ok (.enter g args) w)
    (hyield : ∀ k W, k < 2 ^ n → goodB q ls n k = true → J k W → Calls Try.prog g (fst.push (.int .u64 k) ++ cap) W fun e W' => e = .returned (.bool true) ∧ J (k + 1) W') :
    Calls Try.prog 46 #[.agg #[.slice A n c, .int .i64 q.need, .int .i64 q.gap, .int .i64 q.doubt, .int .i64 q.joins, .int .i64 q.least], .func (.func g) fst cap] w fun e W' => e = .returned (.tuple #[]) ∧ J (2 ^ n) W' := by
  have HM := Lib.hid hmem
  have HL := Lib.hid hlater
  have HS := Lib.hid hskip
  have HY := Lib.hid hyield
  have H0 := Lib.hid h0
  obtain ⟨M, hM2⟩ : ∃ M, 2 ^ n = M := ⟨_, rfl⟩
  have hMle : M ≤ 4096 := by
    have : 2 ^ n ≤ 2 ^ 12 := Nat.pow_le_pow_right (by omega) hn
    omega
  have hsh : IntKind.u64.wrap ((2 : Int) ^ n) = (M : Int) := by
    have e : (2 : Int) ^ n = (M : Int) := by rw [← hM2]; simp
    rw [e, IntKind.wrap_u64]; omega
  have HM2 := Lib.hid hM2
  clear hmem hlater hskip hyield h0 hM2
  go_enter Try.func46, Try.ntmps46
  go_wp2_with fail
  clear hsh
  go_loopw [9] (fun i (wr : World) => ∃ s : Nat, s ≤ M ∧ i = .int .u64 s ∧ J s wr) (fun i _ => M - (intOf i).toNat)
  case atStart => exact ⟨0, Nat.zero_le _, rfl, H0.out⟩
  case round =>
    obtain ⟨s, hs, rfl, hJ⟩ := hrel
    obtain ⟨hsp, hbk⟩ := HM.out _ _ hJ
    have d0 := hbk.cell
    have n0 := hbk.lt
    have HSP := Lib.hid hsp
    have HJ := Lib.hid hJ
    clear hsp hbk hJ
    by_cases hlt : s < M
    · have hltB : decide ((s : Int) < M) = true := by simp; omega
      have hg := isGood_c A n c s q ls wr (by omega) (by omega) HSP.out
      cases e1 : goodB q ls n s
      · rw [e1] at hg
        have HN := Lib.hid e1
        replace hg := Lib.hid hg
        clear e1
        go_wp2_with fail
        refine (hg.out).mono ?_
        rintro e w1 ⟨rfl, hb1⟩
        go_wp2_with fail
        refine ⟨⟨s + 1, by omega, by simp, HS.out _ _ (by rw [HM2.out]; exact hlt) HN.out (HL.out _ _ _ HJ.out hb1)⟩, by simp [intOf]; omega⟩
      · rw [e1] at hg
        have HN := Lib.hid e1
        replace hg := Lib.hid hg
        clear e1
        go_wp2_with fail
        refine (hg.out).mono ?_
        rintro e w1 ⟨rfl, hb1⟩
        go_wp2_with fail
        refine (HY.out s w1 (by rw [HM2.out]; exact hlt) HN.out (HL.out _ _ _ HJ.out hb1)).mono ?_
        rintro e w2 ⟨rfl, hJ2⟩
        have HJ2 := Lib.hid hJ2
        clear hJ2
        go_wp2_with fail
        refine ⟨⟨s + 1, by omega, by simp, HJ2.out⟩, by simp [intOf]; omega⟩
    · obtain rfl : s = M := by omega
      have hltB : decide (((s : Nat) : Int) < s) = false := by simp
      go_wp2_with fail
      go_end0
      exact ⟨rfl, by rw [HM2.out]; exact HJ.out⟩

end Go.Proofs.Ythjjakhmbgnnnaa
