/- sets of checks (layer 5): all sets of so many of some numbers, handed to a function. -/
import Derived.Test.YtcinhibmohkeiaaQy14
import Derived.Test.YtcinhibmohkeiaaQy21
import Derived.Test.YtcinhibmohkeiaaQy17
import Derived.BigRegionIn
import Derived.Shelf.RegionOpen
namespace Go.Proofs.Ytcinhibmohkeiaa
open Go.RowKit
open Go.Sort (grow)
set_option linter.unusedVariables false
set_option linter.unusedSimpArgs false

attribute [local go_sem] Oper.semAt_some
def selS (many : Int) (s : Nat) : Bool := (cnt 8 s : Int) == many
def setsL (of : Nat) (many : Int) : List Nat := (List.range (2 ^ of)).filter (selS many)
theorem selS_no {many : Int} {s : Nat} (h : selS many s = false) : ((List.range (s + 1)).filter (selS many)).length = ((List.range s).filter (selS many)).length := by
  rw [List.range_succ, List.filter_append]; simp [h]
theorem selS_yes {many : Int} {s : Nat} (h : selS many s = true) : ((List.range (s + 1)).filter (selS many)).length = ((List.range s).filter (selS many)).length + 1 := by
  rw [List.range_succ, List.filter_append]; simp [h]
theorem selS_get {of : Nat} {many : Int} {s : Nat} (hs : s < 2 ^ of) (h : selS many s = true) : (setsL of many)[((List.range s).filter (selS many)).length]? = some s := by
  have e : 2 ^ of = s + 1 + (2 ^ of - (s + 1)) := by omega
  unfold setsL
  rw [e, List.range_add, List.filter_append, List.range_succ, List.filter_append, List.append_assoc, List.getElem?_append_right (Nat.le_refl _), Nat.sub_self]
  simp [h]
theorem setsL_lt {of : Nat} {many : Int} {s : Nat} (h : s ∈ setsL of many) (hof : of ≤ 8) : s < 256 := by
  unfold setsL at h
  rw [List.mem_filter, List.mem_range] at h
  have : 2 ^ of ≤ 2 ^ 8 := Nat.pow_le_pow_right (by omega) hof
  omega
/-- what the iterator reads: the two numbers, boxed -/
def SetMem (b1 b2 : Nat) (of : Nat) (many : Int) (W : World) : Prop := Blk W b1 3 #[.int .i64 of] ∧ Blk W b2 3 #[.int .i64 many]
def SetAt (s : Nat) (args : Array Value) : Prop := args = #[.int .u64 s]
set_option maxRecDepth 100000 in
set_option maxHeartbeats 1600000 in
theorem sets1_c (b1 b2 : Nat) (of : Nat) (many : Int) (hof : of ≤ 8) :
    IterT Try.prog 49 #[] #[.pointer (some ⟨b1, 0, none⟩), .pointer (some ⟨b2, 0, none⟩)] (SetMem b1 b2 of many) (setsL of many) SetAt := by
  intro l J Jx W hM hS hX hY h0
  have HM := Lib.hid hM
  have HS := Lib.hid hS
  have HX := Lib.hid hX
  have HY := Lib.hid hY
  have q0 := (hM 0 W h0).1.cell
  obtain ⟨M, hM2⟩ : ∃ M, 2 ^ of = M := ⟨_, rfl⟩
  have hMle : M ≤ 256 := by
    have : 2 ^ of ≤ 2 ^ 8 := Nat.pow_le_pow_right (by omega) hof
    omega
  have hsh : IntKind.u64.wrap ((2 : Int) ^ of) = (M : Int) := by
    have e : (2 : Int) ^ of = (M : Int) := by rw [← hM2]; simp
    rw [e, IntKind.wrap_u64]; omega
  have HM2 := Lib.hid hM2
  clear hM hS hX hY hM2
  refine (callsIn_wide (n := 3)).1 (callsIn_of_wp Try.func49 rfl trivial ?_ rfl)
  simp only [Try.ntmps49, List.size_toArray, List.length_cons, List.length_nil, Nat.reduceAdd, Nat.reduceSub, Array.replicate_succ, Array.replicate_zero, List.push_toArray, List.append_toArray, List.nil_append, List.cons_append]
  gi_wp2
  clear hsh q0
  gi_loopw [7] (fun i (wr : World) => ∃ s : Nat, s ≤ M ∧ i = .int .u64 s ∧ W.heap.size ≤ wr.heap.size ∧ J (((List.range s).filter (selS many)).length) wr) (fun i _ => M - (intOf i).toNat)
  case atStart => exact ⟨0, Nat.zero_le _, rfl, Nat.le_refl _, h0⟩
  case round =>
    obtain ⟨s, hs, rfl, hW, hJ⟩ := hrel
    clear h0
    obtain ⟨k1, k2⟩ := HM.out _ _ hJ
    have q1 := k1.cell
    have q2 := k2.cell
    have l1 := k1.lt
    have l2 := k2.lt
    have HJ := Lib.hid hJ
    clear k1 k2 hJ
    by_cases hlt : s < M
    · have hqB : decide ((s : Int) < M) = true := by simp; omega
      cases e1 : selS many s
      · have E1 := Lib.hid e1
        have e2 : ((cnt 8 s : Int) == many) = false := e1
        clear e1
        gi_wp2
        refine wpIn_wide.2 ?_
        have hcq := fun p : Regrown => (bcell (below_regrown wr p.d p.os)).1
        refine wp_region_quiet_below (by kernel_rfl) (by kernel_rfl) ?_
        repeat (go_big_quiet_step (((go_at_call 50; exact regrown_left (many5_c _ _ (by omega))))))
        refine wpQuiet_nil ?_
        intro w1 hq
        obtain ⟨pq, hq⟩ := hq
        have hb1 : Below wr.heap.size wr w1 := by rw [hq]; exact below_regrown _ _ _
        clear hq hcq pq
        obtain ⟨hc1, hf1⟩ := bcell hb1
        have z1 := hb1.size
        gi_wp2
        go_roundw
        case rel => exact ⟨s + 1, by omega, by go_num, Nat.le_trans hW hb1.size, by
          rw [selS_no E1.out]
          exact HS.out _ _ _ HJ.out (Tame.of_below hb1)⟩
        case measure => simp [intOf]; omega
      · have E1 := Lib.hid e1
        have e2 : ((cnt 8 s : Int) == many) = true := e1
        clear e1
        gi_wp2
        have hJ2 := Lib.hid (HS.out _ _ wr.drew HJ.out (Tame.of_below (Below.drew (Below.refl _ _))))
        have hS : ∀ j, wr.drew.cell? ⟨b2, j, none⟩ = #[Value.int .i64 many][j]? := fun j => q2 j
        refine wpIn_region_M (by kernel_rfl) (fun W' => ∀ j, W'.cell? ⟨b2, j, none⟩ = #[Value.int .i64 many][j]?) 7 ?_
        refine wpAnyM_take (fun _ => trivial) (by rfl) (i := 0) (v := ?_) rfl (by kernel_rfl) (by kernel_rfl) (by kernel_rfl) (by kernel_rfl) (fun _ _ _ h => h) hS (Or.inl ⟨by rfl, ?_⟩) ?_
        rotate_left 1
        · intro w9 hw9
          have s0 := hw9
          go_simp
          try with_reducible rfl
        try simp only [List.getElem_toArray, List.getElem_cons_zero, List.getElem_cons_succ, Act.put, List.setIfInBounds_toArray, List.set_cons_zero, List.set_cons_succ]
        refine wpAnyM_take (fun _ => trivial) (by rfl) (i := 2) (v := ?_) rfl (by kernel_rfl) (by kernel_rfl) (by kernel_rfl) (by kernel_rfl) (fun _ _ _ h => h) hS (Or.inl ⟨by rfl, ?_⟩) ?_
        rotate_left 1
        · intro w9 hw9
          have s0 := hw9
          go_simp
          try with_reducible rfl
        try simp only [List.getElem_toArray, List.getElem_cons_zero, List.getElem_cons_succ, Act.put, List.setIfInBounds_toArray, List.set_cons_zero, List.set_cons_succ]
        refine wpAnyM_one (i := 1) (by kernel_rfl) rfl (fun Kx hKx => ?_)
        go_simp
        refine ⟨trivial, callsIn_wide.2 ((many5_c s _ (by omega)).mono ?_)⟩
        rintro e w5 ⟨rfl, rfl⟩
        refine hKx.out _ _ (fun _ => hS) ?_
        clear hKx Kx
        refine wpAnyM_take (fun _ => trivial) (by rfl) (i := 3) (v := ?_) rfl (by kernel_rfl) (by kernel_rfl) (by kernel_rfl) (by kernel_rfl) (fun _ _ _ h => h) hS (Or.inl ⟨by rfl, ?_⟩) ?_
        rotate_left 1
        · intro w9 hw9
          have s0 := hw9
          go_simp
          try with_reducible rfl
        try simp only [List.getElem_toArray, List.getElem_cons_zero, List.getElem_cons_succ, Act.put, List.setIfInBounds_toArray, List.set_cons_zero, List.set_cons_succ]
        refine wpAnyM_take (fun _ => trivial) (by rfl) (i := 4) (v := ?_) rfl (by kernel_rfl) (by kernel_rfl) (by kernel_rfl) (by kernel_rfl) (fun _ _ _ h => h) hS (Or.inl ⟨by rfl, ?_⟩) ?_
        rotate_left 1
        · intro w9 hw9
          have s0 := hw9
          go_simp
          try with_reducible rfl
        try simp only [List.getElem_toArray, List.getElem_cons_zero, List.getElem_cons_succ, Act.put, List.setIfInBounds_toArray, List.set_cons_zero, List.set_cons_succ]
        refine wpAnyM_take (fun _ => trivial) (by rfl) (i := 5) (v := ?_) rfl (by kernel_rfl) (by kernel_rfl) (by kernel_rfl) (by kernel_rfl) (fun _ _ _ h => h) hS (Or.inl ⟨by rfl, ?_⟩) ?_
        rotate_left 1
        · intro w9 hw9
          have s0 := hw9
          go_simp
          try with_reducible rfl
        try simp only [List.getElem_toArray, List.getElem_cons_zero, List.getElem_cons_succ, Act.put, List.setIfInBounds_toArray, List.set_cons_zero, List.set_cons_succ]
        refine wpAnyM_take (fun _ => trivial) (by rfl) (i := 6) (v := ?_) rfl (by kernel_rfl) (by kernel_rfl) (by kernel_rfl) (by kernel_rfl) (fun _ _ _ h => h) hS (Or.inl ⟨by rfl, ?_⟩) ?_
        rotate_left 1
        · intro w9 hw9
          have s0 := hw9
          go_simp
          try with_reducible rfl
        try simp only [List.getElem_toArray, List.getElem_cons_zero, List.getElem_cons_succ, Act.put, List.setIfInBounds_toArray, List.set_cons_zero, List.set_cons_succ]
        obtain ⟨fn, tmps, assign, body, hy, hR⟩ := HY.out _ s #[.int .u64 s] wr.drew hW (selS_get (by rw [HM2.out]; exact hlt) E1.out) hJ2.out rfl
        refine wpAnyM_one (i := 7) (by kernel_rfl) rfl (fun Kx hKx => ?_)
        go_simp
        refine (hR _).mono ?_
        rintro e W6 ⟨hK6, (⟨rfl, hJ6⟩ | ⟨rfl, hJ6⟩)⟩
        · have HJ6 := Lib.hid hJ6
          have hz6 : W.heap.size ≤ W6.heap.size := Nat.le_trans hW hK6.1
          clear hJ6 hK6 hR hy hS
          refine hKx.out _ _ (fun h => by simp at h) ?_
          clear hKx Kx
          refine wpAnyM_one (i := 8) (by kernel_rfl) rfl (fun Kx hKx => ?_)
          go_simp
          refine hKx.out _ _ (fun h => by simp at h) ?_
          clear hKx Kx
          try simp only [List.getElem_toArray, List.getElem_cons_zero, List.getElem_cons_succ, Act.put, List.setIfInBounds_toArray, List.set_cons_zero, List.set_cons_succ]
          refine wpAnyM_one (i := 9) (by kernel_rfl) rfl (fun Kx hKx => ?_)
          go_simp
          refine hKx.out _ _ (fun h => by simp at h) ?_
          clear hKx Kx
          try simp only [List.getElem_toArray, List.getElem_cons_zero, List.getElem_cons_succ, Act.put, List.setIfInBounds_toArray, List.set_cons_zero, List.set_cons_succ]
          refine wpAnyM_done (by kernel_rfl) ?_ _
          gi_wp2
          go_roundw
          case rel => exact ⟨s + 1, by omega, by go_num, hz6, by rw [selS_yes E1.out]; exact HJ6.out⟩
          case measure => simp [intOf]; omega
        · have HJ6 := Lib.hid hJ6
          clear hJ6 hK6 hR hy hS
          refine hKx.out _ _ (fun h => by simp at h) ?_
          clear hKx Kx
          refine wpAnyM_one (i := 8) (by kernel_rfl) rfl (fun Kx hKx => ?_)
          go_simp
          refine hKx.out _ _ (fun h => by simp at h) ?_
          clear hKx Kx
          try simp only [List.getElem_toArray, List.getElem_cons_zero, List.getElem_cons_succ, Act.put, List.setIfInBounds_toArray, List.set_cons_zero, List.set_cons_succ]
          refine wpAnyM_one (i := 9) (by kernel_rfl) rfl (fun Kx hKx => ?_)
          go_simp
          refine hKx.out _ _ (fun h => by simp at h) ?_
          clear hKx Kx
          try simp only [List.getElem_toArray, List.getElem_cons_zero, List.getElem_cons_succ, Act.put, List.setIfInBounds_toArray, List.set_cons_zero, List.set_cons_succ]
          refine wpAnyM_done (by kernel_rfl) ?_ _
          gi_wp2
          first | refine bodyPost_ret (results_none rfl _ _ _) rfl ?_ | refine bodyPost_end (results_none rfl _ _ _) rfl ?_
          exact ⟨⟨_, rfl⟩, .inr HJ6.out⟩
    · obtain rfl : M = s := by omega
      have hqB : decide (((M : Nat) : Int) < M) = false := by simp
      gi_wp2
      go_end0
      exact ⟨⟨_, rfl⟩, .inl (by have := HJ.out; rw [← HM2.out] at this; exact this)⟩
set_option maxHeartbeats 800000 in
theorem sets_c (of : Nat) (many : Int) (w : World) :
    Calls Try.prog 27 #[.int .i64 of, .int .i64 many] w fun e w' => ∃ b1 b2, e = .returned (.func (.func 49) #[] #[.pointer (some ⟨b1, 0, none⟩), .pointer (some ⟨b2, 0, none⟩)]) ∧ (w.heap.size ≤ b1 ∧ w.heap.size ≤ b2) ∧ SetMem b1 b2 of many w' ∧ Below w.heap.size w w' := by
  go_enter Try.func27, Try.ntmps27
  go_upto_region 1 with (fail)
  go_name_world X hX
  have BX := Lib.hid (al2 hX).1
  have k1 : Blk X w.heap.size 3 #[.int .i64 of] := by rw [← hX]; exact (Blk.new w _ _).alloc _
  have k2 : Blk X (w.heap.size + 1) 3 #[.int .i64 many] := by
    rw [← hX]
    have := Blk.new (w.alloc (.cells #[.int .i64 of] 3)) 3 #[.int .i64 many]
    rw [World.size_alloc] at this
    exact this
  have HM := Lib.hid (show SetMem w.heap.size (w.heap.size + 1) of many X from ⟨k1, k2⟩)
  clear hX k1 k2
  go_wp2_with fail
  go_ret
  exact ⟨_, _, rfl, ⟨Nat.le_refl _, Nat.le_succ _⟩, HM.out, BX.out⟩
theorem SetMem.below {b1 b2 of : Nat} {many : Int} {W W' : World} (h : SetMem b1 b2 of many W) (hb : Below W.heap.size W W') : SetMem b1 b2 of many W' := ⟨h.1.below hb h.1.lt, h.2.below hb h.2.lt⟩
theorem SetMem.tame {b1 b2 of B : Nat} {many : Int} {W W' : World} (h : SetMem b1 b2 of many W) (ht : Tame B W W') : SetMem b1 b2 of many W' := ⟨ht.blk h.1, ht.blk h.2⟩

end Go.Proofs.Ytcinhibmohkeiaa
