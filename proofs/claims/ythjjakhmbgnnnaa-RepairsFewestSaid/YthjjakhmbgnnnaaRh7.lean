/- good of the specification (layer 7): the lists of all good repairs. -/
import Derived.Laws.BitsAllLaws
import Derived.Laws.BitsLemmas
import Derived.Test.YthjjakhmbgnnnaaRk7
import Derived.Test.YthjjakhmbgnnnaaSs
namespace Go.Proofs.Ythjjakhmbgnnnaa
open Go.RowKit
open Go.Sort (grow)
set_option linter.unusedVariables false

theorem slc_info : (Try.prog.info? 48).map (fun i => (i.zero, i.size, i.bytes)) = some (some (.slice none 0 0), 1, 24) := by kernel_rfl
theorem slcE : ElemT Try.prog 73 48 1 24 := by
  obtain ⟨i0, hi0, hz0, hz1, hz2⟩ := info_parts slc_info
  exact ⟨Try.underlying73, ⟨i0, _, hi0, hz0, hz1, hz2, rfl⟩, by omega, by omega⟩
/-- the good repairs below k, as lists -/
def gdK (q : Cb) (ls : List Sp) (n k : Nat) : List Nat := (List.range k).filter (goodB q ls n)
def lists (n : Nat) (S : List Nat) : List (List Int) := S.map fun x => ints (memN x n)
theorem gdK_succ {q : Cb} {ls : List Sp} {n k : Nat} : gdK q ls n (k + 1) = gdK q ls n k ++ (if goodB q ls n k = true then [k] else []) := by
  unfold gdK
  rw [List.range_succ, List.filter_append]
  congr 1
  cases h : goodB q ls n k <;> simp [h]
theorem gdK_len (q : Cb) (ls : List Sp) (n k : Nat) : (gdK q ls n k).length ≤ k := by
  unfold gdK
  have := List.length_filter_le (goodB q ls n) (List.range k)
  simpa using this
theorem mem_len (x n : Nat) : (memN x n).length ≤ n := by
  have := selN_len x n true
  rw [selN_true] at this
  exact this
theorem mem_yes {x k : Nat} (h : x.testBit k = true) : memN x (k + 1) = memN x k ++ [k] := by simp [memN, List.range_succ, List.filter_append, h]
theorem mem_no {x k : Nat} (h : x.testBit k = false) : memN x (k + 1) = memN x k := by simp [memN, List.range_succ, List.filter_append, h]
theorem i64_and1 (n : Int) : bits .and .i64 n 1 = n % 2 := by
  have h127 : (BitVec.ofInt 64 1).toNat = 2 ^ 1 - 1 := by decide
  have key : (BitVec.ofInt 64 n &&& BitVec.ofInt 64 1).toNat = (n % ((2 ^ 64 : Nat) : Int)).toNat % 2 ^ 1 := by
    rw [BitVec.toNat_and, BitVec.toNat_ofInt, h127, Nat.and_two_pow_sub_one_eq_mod]
  show IntKind.i64.wrap ((BitVec.ofInt 64 n &&& BitVec.ofInt 64 1).toNat : Nat) = n % 2
  rw [key, IntKind.wrap_i64]
  omega
theorem bit_i64 (s n : Nat) : (bits .and .i64 ((s : Int) / 2 ^ n) 1 == 1) = s.testBit n := by
  rw [i64_and1, show ((s : Int) / 2 ^ n) = ((s / 2 ^ n : Nat) : Int) by simp]
  have e : s.testBit n = (s / 2 ^ n % 2 == 1) := by
    rw [Nat.testBit, Nat.shiftRight_eq_div_pow, Nat.and_comm 1, Nat.and_one_is_mod]
    have : s / 2 ^ n % 2 = 0 ∨ s / 2 ^ n % 2 = 1 := by omega
    rcases this with h | h <;> rw [h] <;> rfl
  rw [e]
  rcases (by omega : s / 2 ^ n % 2 = 0 ∨ s / 2 ^ n % 2 = 1) with h | h
  · rw [h, show ((s / 2 ^ n : Nat) : Int) % 2 = ((s / 2 ^ n % 2 : Nat) : Int) from rfl, h]; rfl
  · rw [h, show ((s / 2 ^ n : Nat) : Int) % 2 = ((s / 2 ^ n % 2 : Nat) : Int) from rfl, h]; rfl
set_option maxRecDepth 100000 in
set_option maxHeartbeats 3200000 in
theorem refgood_c (A : Option Addr) (n c : Nat) (q : Cb) (ls : List Sp) (w : World) (hn : n ≤ 12) (HL : SpsAt w A n ls) :
    Calls Try.prog 53 #[.agg #[.slice A n c, .int .i64 q.need, .int .i64 q.gap, .int .i64 q.doubt, .int .i64 q.joins, .int .i64 q.least]] w
      fun e w' => ∃ A1 c1 hs, e = .returned (.slice A1 (goods q ls n).length c1) ∧ SsAt w' A1 (goods q ls n).length hs (lists n (goods q ls n)) ∧ Below w.heap.size w w' := by
  have HLI := Lib.hid HL
  obtain ⟨M, hM2⟩ : ∃ M, 2 ^ n = M := ⟨_, rfl⟩
  have hMle : M ≤ 4096 := by
    have : 2 ^ n ≤ 2 ^ 12 := Nat.pow_le_pow_right (by omega) hn
    omega
  have hsh : IntKind.i64.wrap ((2 : Int) ^ n) = (M : Int) := by
    have e : (2 : Int) ^ n = (M : Int) := by rw [← hM2]; simp
    rw [e, IntKind.wrap_i64]; omega
  have hGO : Hid (goods q ls n = gdK q ls n M) := by show _ = _; rw [← hM2]; rfl
  clear HL hM2
  go_enter Try.func53, Try.ntmps53
  go_wp2
  go_name_world W hW
  obtain ⟨hB, hz⟩ := al1 hW
  obtain ⟨l_0, q_0, f_0⟩ := al1_0 hW
  have HZ := Lib.hid hz
  have zs := hB.size
  clear hW hz
  have W_ := Lib.hid (OwnSs.nil W W.heap.size 48)
  go_loopw [3, 4, 5, 6] (fun v s _ _ (wr : World) => ∃ k : Nat, k ≤ M ∧ s = .int .i64 k ∧ (∃ hs, Hid (OwnSs W.heap.size 48 wr v (gdK q ls n k).length hs (lists n (gdK q ls n k)))) ∧ Below W.heap.size W wr) (fun _ s _ _ _ => M - (intOf s).toNat)
  case atStart => exact ⟨0, by omega, rfl, ⟨[], W_⟩, Below.refl _ _⟩
  case round =>
    obtain ⟨k, hk, rfl, ⟨hs, HO⟩, hb⟩ := hrel
    obtain ⟨hc, hf⟩ := bcell hb
    have zb := hb.size
    have m0 := Nat.lt_of_lt_of_le l_0 zb
    have hle := gdK_len q ls n k
    by_cases hkn : k < M
    · have hknB : decide ((k : Int) < M) = true := by simp; omega
      have hk16 : k < 65536 := by omega
      obtain ⟨wo, rfl⟩ : ∃ wo : World, wo = wr := ⟨_, rfl⟩
      have HC0 := Lib.hid (World.ownsRow_nil wo wo.heap.size 3 1)
      have HB := Lib.hid hb
      have zW := hb.size
      have LL := l_0
      go_wp2_with fail
      clear hc hf
      go_loopw [5, 6] (fun v i (wr : World) => ∃ j : Nat, j ≤ n ∧ i = .int .i64 j ∧ Hid (wr.ownsRow wo.heap.size 3 1 v (memN k j).length ((ints (memN k j)).flatMap encI)) ∧ Below wo.heap.size wo wr) (fun _ i _ => n - (intOf i).toNat)
      case atStart => exact ⟨0, by omega, rfl, HC0, Below.refl _ _⟩
      case round =>
        obtain ⟨j, hj, rfl, HC, hb2⟩ := hrel
        have hb : Below W.heap.size W wr := HB.out.trans (hb2.mono zW)
        obtain ⟨hc, hf⟩ := bcell hb
        have zb := hb.size
        have m0 := Nat.lt_of_lt_of_le l_0 zb
        have hml := mem_len k j
        by_cases hjn : j < n
        · have hjnB : decide ((j : Int) < n) = true := by simp; omega
          have hj12 : j < 12 := by omega
          have hbit := bit_i64 k j
          cases e1 : k.testBit j
          · rw [e1] at hbit
            have HN := Lib.hid (mem_no e1)
            clear e1
            go_wp2_with fail
            refine ⟨⟨j + 1, by omega, by go_num, ?_, hb2⟩, by simp [intOf]; omega⟩
            rw [HN.out]; exact HC
          · rw [e1] at hbit
            have HY := Lib.hid (mem_yes e1)
            clear e1
            go_wp2_with (at_builtin; go_must (refine wpList_append_T _ (d := (0 : Int)) rfl (.tmp 29) (.tmp 31) _ rfl wo.heap.size _ 1 8 intE encI_len encI_one u5 u5.ownBlock (memN k j).length (ints (memN k j)) rfl rfl ?_ _ 1 _ [(j : Int)] rfl ?_ ?_ ?_ ?_; (exact own_below HC.out (by (repeat first | with_reducible assumption | with_reducible exact Below.refl _ _ | (with_reducible refine Below.alloc ?_ ?side _; case side => (first | omega | (with_reducible exact Below.size (by assumption)) | (simp; done) | (simp; omega))) | (with_reducible refine Below.setCell ?_ ?side _; case side => (first | omega | (with_reducible exact Below.size (by assumption)) | (simp; done) | (simp; omega))) | with_reducible refine Below.drew ?_ | with_reducible refine below_drewN ?_ _ | (with_reducible refine below_step (by assumption) ?side ?_; case side => (first | omega | (with_reducible exact Below.size (by assumption)) | (simp; done) | (simp; omega)))))); (exact sl_new encI_len rfl rfl rfl); omega; (have := hb2.size; simp; omega); (intro v' w5 hown5 hg5 hat5; have hb5 : Below wo.heap.size wo w5 := (Below.grown (by have := hb2.size; (repeat first | with_reducible assumption | with_reducible exact Below.refl _ _ | (with_reducible refine Below.alloc ?_ ?side _; case side => (first | omega | (with_reducible exact Below.size (by assumption)) | (simp; done) | (simp; omega))) | (with_reducible refine Below.setCell ?_ ?side _; case side => (first | omega | (with_reducible exact Below.size (by assumption)) | (simp; done) | (simp; omega))) | with_reducible refine Below.drew ?_ | with_reducible refine below_drewN ?_ _ | (with_reducible refine below_step (by assumption) ?side ?_; case side => (first | omega | (with_reducible exact Below.size (by assumption)) | (simp; done) | (simp; omega))))) hg5 (by have := hb2.size; simp; omega) (own_ge HC.out)); have hown6 : Hid (w5.ownsRow wo.heap.size 3 1 v' (memN k (j + 1)).length ((ints (memN k (j + 1))).flatMap encI)) := (by rw [HY.out, List.length_append, ints, List.map_append]; exact hown5); clear hown5 hg5 hat5)))
            exact ⟨⟨j + 1, by omega, by go_num, hown6, hb5⟩, by simp [intOf]; omega⟩
        · obtain rfl : j = n := by omega
          have hjnB : decide (((j : Nat) : Int) < j) = false := by simp
          obtain ⟨A5, c5, rfl, -, hsl⟩ := SlAt.of_own (d := (0 : Int)) encI_len HC.out (ints_len _)
          have HI := Lib.hid (ints_iff.2 hsl)
          have HAd := Lib.hid (own_addr HC.out)
          have hbw : Below w.heap.size w wr := by (repeat first | with_reducible assumption | with_reducible exact Below.refl _ _ | refine below_drewN ?_ _ | refine Below.drew ?_ | refine Below.alloc ?_ (by first | omega | (with_reducible exact Below.size (by assumption)) | (simp; done) | (simp; omega)) _ | refine Below.setCell ?_ (by first | omega | (with_reducible exact Below.size (by assumption)) | (simp; done) | (simp; omega)) _ | refine below_step (by assumption) (by first | omega | (with_reducible exact Below.size (by assumption)) | (simp; done) | (simp; omega)) ?_)
          have hO := Lib.hid (HO.out.later hb2)
          have HOB := Lib.hid (fun b (e : u3.ownBlock = some b) => (HO.out.own.lt b e).2)
          clear hsl
          obtain ⟨g, hg⟩ : ∃ g, goodB q ls j k = g := ⟨_, rfl⟩
          have HGS := Lib.hid (gdK_succ (q := q) (ls := ls) (n := j) (k := k))
          rw [hg] at HGS
          have hig : Calls Try.prog 41 #[.agg #[.slice A j c, .int .i64 q.need, .int .i64 q.gap, .int .i64 q.doubt, .int .i64 q.joins, .int .i64 q.least], .slice A5 (memN k j).length c5] wr fun e w' => e = .returned (.bool g) ∧ Below wr.heap.size wr w' := by
            rw [← hg]
            exact IsGood_c A A5 j c _ c5 k q ls _ wr (by omega) (by omega) (HLI.out.later hbw) HI.out (bits_mem k j)
          replace hig := Lib.hid hig
          clear hg
          cases g
          · go_wp2_with (go_at_call 41; refine hig.out.mono ?_; rintro e w5 ⟨rfl, hb5⟩)
            have HO5 := Lib.hid (hO.out.later hb5)
            have b5 : Below W.heap.size W w5 := hb.trans (hb5.mono zb)
            refine ⟨⟨k + 1, by omega, by go_num, ⟨hs, ?_⟩, b5⟩, by simp [intOf]; omega⟩
            rw [HGS.out]
            simp only [Bool.false_eq_true, if_false, List.append_nil]
            exact HO5
          · go_wp2_with fail
            refine hig.out.mono ?_
            rintro e w5 ⟨rfl, hb5⟩
            have HO5 := Lib.hid (hO.out.later hb5)
            have HI5 := Lib.hid (HI.out.later hb5)
            have b5 : Below W.heap.size W w5 := hb.trans (hb5.mono zb)
            have z5 := b5.size
            have zr := hb5.size
            have HNE := Lib.hid (fun a (e : A5 = some a) => And.intro (fun e' => by have h1 := HOB.out _ e'; have h2 := (HAd.out a e).1; omega : u3.ownBlock ≠ some a.block) (by have h2 := (HAd.out a e).2; omega : a.block < w5.heap.size))
            clear hb5 HAd HOB hO HO
            go_wp2_with (at_builtin; go_must (refine wpList_append_T _ (d := (⟨none, 0, 0⟩ : Hd)) rfl (.tmp 36) (.tmp 38) _ rfl W.heap.size _ 1 24 slcE encH_len encH_one u3 u3.ownBlock (gdK q ls j k).length hs rfl rfl ?_ _ 1 _ [⟨A5, (memN k j).length, c5⟩] rfl ?_ ?_ ?_ ?_; (exact HO5.out.own.alloc _); (exact sl_new encH_len rfl rfl rfl); omega; (simp; omega); (intro v' w6 hown6 hg6 hat6; have hb6 : Below W.heap.size W w6 := (Below.grown (by (repeat first | with_reducible assumption | with_reducible exact Below.refl _ _ | (with_reducible refine Below.alloc ?_ ?side _; case side => (first | omega | (with_reducible exact Below.size (by assumption)) | (simp; done) | (simp; omega))) | (with_reducible refine Below.setCell ?_ ?side _; case side => (first | omega | (with_reducible exact Below.size (by assumption)) | (simp; done) | (simp; omega))) | with_reducible refine Below.drew ?_ | with_reducible refine below_drewN ?_ _ | (with_reducible refine below_step (by assumption) ?side ?_; case side => (first | omega | (with_reducible exact Below.size (by assumption)) | (simp; done) | (simp; omega))))) hg6 (by simp; omega) (own_ge HO5.out.own)); have HP := Lib.hid (HO5.out.push HI5.out HNE.out hown6 hg6 hat6); clear hown6 hg6 hat6)))
            refine ⟨⟨k + 1, by omega, by go_num, ⟨hs ++ [⟨A5, (memN k j).length, c5⟩], ?_⟩, hb6⟩, by simp [intOf]; omega⟩
            rw [HGS.out]
            simp only [if_true, List.length_append, List.length_singleton]
            have e : lists j (gdK q ls j k ++ [k]) = lists j (gdK q ls j k) ++ [ints (memN k j)] := by simp [lists]
            rw [e]
            exact HP
    · obtain rfl : k = M := by omega
      have hknB : decide (((k : Nat) : Int) < k) = false := by simp
      obtain ⟨A1, c1, rfl, hss⟩ := HO.out.ss
      have HSS := Lib.hid hss
      clear hss
      go_wp2
      go_ret
      rw [hGO.out]
      exact ⟨A1, c1, hs, rfl, HSS.out, by (repeat first | with_reducible assumption | with_reducible exact Below.refl _ _ | refine below_drewN ?_ _ | refine Below.drew ?_ | refine Below.alloc ?_ (by first | omega | (with_reducible exact Below.size (by assumption)) | (simp; done) | (simp; omega)) _ | refine Below.setCell ?_ (by first | omega | (with_reducible exact Below.size (by assumption)) | (simp; done) | (simp; omega)) _ | refine below_step (by assumption) (by first | omega | (with_reducible exact Below.size (by assumption)) | (simp; done) | (simp; omega)) ?_)⟩

end Go.Proofs.Ythjjakhmbgnnnaa
