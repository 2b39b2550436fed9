/- The iterator over the nets of a book (layer 11); nets and truths (layer 11): the iterators as values. -/
import Derived.Test.YtdhlnlmhdacblaaTs33
import Derived.Test.YtdhlnlmhdacblaaTs29
import Derived.Test.YtdhlnlmhdacblaaTs06
namespace Go.Proofs.Ytdhlnlmhdacblaa
open Go.RowKit
open Go.Sort (grow)
set_option linter.unusedVariables false
set_option linter.unusedSimpArgs false

def sel (np nl : Nat) (pl : List Sp) (ls : List Ln) (wrong : Int) (s : Nat) : Bool :=
  ((cnt 8 s : Int) == wrong) && canL (2 * nl + np + 1) (flowL np nl pl ls s.testBit)
/-- the sets of lines whose nets are yielded -/
def netSets (np nl : Nat) (pl : List Sp) (ls : List Ln) (wrong : Int) : List Nat := (List.range (2 ^ nl)).filter (sel np nl pl ls wrong)

/-- what the iterator reads: the book and the number of wrong lines, boxed -/
structure NetMem (b1 b2 : Nat) (Ap Al : Option Addr) (np cp nl cl : Nat) (wrg wrong : Int) (pl : List Sp) (ls : List Ln) (W : World) : Prop where
  q1 : ∀ i, W.cell? ⟨b1, i, none⟩ = #[Value.slice Ap np cp, .slice Al nl cl, .int .i64 wrg][i]?
  q2 : W.cell? ⟨b2, 0, none⟩ = some (.int .i64 wrong)
  HP : SpsAt W Ap np pl
  HL : LnsAt W Al nl ls
def NetAt (np nl : Nat) (pl : List Sp) (ls : List Ln) (s : Nat) (args : Array Value) (W : World) : Prop :=
  ∃ A c, args = #[.slice A (2 * nl + np + 1) c, .int .u64 s] ∧ PpsAt W A (2 * nl + np + 1) (flowL np nl pl ls s.testBit)

/-- moderate numbers in a book, as a valid one has them -/
structure OkBk (np nl : Nat) (pl : List Sp) (ls : List Ln) : Prop where
  hp : np ≤ 5
  hl : nl ≤ 8
  sp : ∀ k, -999 ≤ (spAt pl k).lo ∧ (spAt pl k).lo ≤ (spAt pl k).hi ∧ (spAt pl k).hi ≤ 999
  ln : ∀ k, -1 ≤ (lnAt ls k).fr ∧ (lnAt ls k).fr < 5 ∧ -1 ≤ (lnAt ls k).to ∧ (lnAt ls k).to < 5 ∧ 0 ≤ (lnAt ls k).s.lo ∧ (lnAt ls k).s.lo ≤ (lnAt ls k).s.hi ∧ (lnAt ls k).s.hi ≤ (lnAt ls k).w.lo ∧ (lnAt ls k).w.lo ≤ (lnAt ls k).w.hi ∧ (lnAt ls k).w.hi ≤ 999

theorem flow_ok {np nl : Nat} {pl : List Sp} {ls : List Ln} {ws : Nat → Bool} (h : OkBk np nl pl ls) : ∀ p ∈ flowL np nl pl ls ws, okPp p ∧ p.lo ≤ p.hi := by
  have hl := h.hl
  have hp := h.hp
  intro p hmem
  simp only [flowL, List.mem_append, flTo, flPl, List.mem_flatMap, List.mem_map, List.mem_range, List.mem_cons, List.not_mem_nil, or_false] at hmem
  rcases hmem with (⟨i, hi, hm⟩ | ⟨i, hi, rfl⟩) | rfl
  · obtain ⟨a1, a2, a3, a4, a5, a6, a7, a8, a9⟩ := h.ln i
    have n1 : 0 ≤ nodeZ (lnAt ls i).fr ∧ nodeZ (lnAt ls i).fr < 7 := by unfold nodeZ; split <;> omega
    have n2 : 0 ≤ nodeZ (lnAt ls i).to ∧ nodeZ (lnAt ls i).to < 7 := by unfold nodeZ; split <;> omega
    simp only [flLn, List.mem_cons, List.not_mem_nil, or_false] at hm
    rcases hm with rfl | rfl
    · unfold okPp; cases ws i <;> simp <;> omega
    · unfold okPp; simp; omega
  · have := h.sp i
    unfold okPp; simp; omega
  · unfold okPp; simp; omega
theorem flow_at {np nl : Nat} {pl : List Sp} {ls : List Ln} {ws : Nat → Bool} (h : OkBk np nl pl ls) (k : Nat) : okPp (ppAt (flowL np nl pl ls ws) k) ∧ (ppAt (flowL np nl pl ls ws) k).lo ≤ (ppAt (flowL np nl pl ls ws) k).hi := by
  unfold ppAt
  rw [List.getD_eq_getElem?_getD]
  cases e : (flowL np nl pl ls ws)[k]? with
  | none => simp [okPp]
  | some p => exact flow_ok h p (List.mem_of_getElem? e)

theorem sel_succ_no {np nl : Nat} {pl : List Sp} {ls : List Ln} {wrong : Int} {s : Nat} (h : sel np nl pl ls wrong s = false) : ((List.range (s + 1)).filter (sel np nl pl ls wrong)).length = ((List.range s).filter (sel np nl pl ls wrong)).length := by
  rw [List.range_succ, List.filter_append]; simp [h]
theorem sel_succ_yes {np nl : Nat} {pl : List Sp} {ls : List Ln} {wrong : Int} {s : Nat} (h : sel np nl pl ls wrong s = true) : ((List.range (s + 1)).filter (sel np nl pl ls wrong)).length = ((List.range s).filter (sel np nl pl ls wrong)).length + 1 := by
  rw [List.range_succ, List.filter_append]; simp [h]
theorem sel_get {np nl : Nat} {pl : List Sp} {ls : List Ln} {wrong : Int} {s : Nat} (hs : s < 2 ^ nl) (h : sel np nl pl ls wrong s = true) : (netSets np nl pl ls wrong)[((List.range s).filter (sel np nl pl ls wrong)).length]? = some s := by
  have e : 2 ^ nl = s + 1 + (2 ^ nl - (s + 1)) := by omega
  unfold netSets
  rw [e, List.range_add, List.filter_append, List.range_succ, List.filter_append, List.append_assoc, List.getElem?_append_right (Nat.le_refl _), Nat.sub_self]
  simp [h]

set_option maxRecDepth 100000 in
set_option maxHeartbeats 800000 in
theorem nets1_c (b1 b2 : Nat) (Ap Al : Option Addr) (np cp nl cl : Nat) (wrg wrong : Int) (pl : List Sp) (ls : List Ln) (hok : OkBk np nl pl ls) :
    IterC Try.prog 63 #[] #[.pointer (some ⟨b1, 0, none⟩), .pointer (some ⟨b2, 0, none⟩)] (NetMem b1 b2 Ap Al np cp nl cl wrg wrong pl ls) (netSets np nl pl ls wrong) (NetAt np nl pl ls) := by
  intro l J Jx W hM hS hY h0
  have hl := hok.hl
  have hp := hok.hp
  have HM := Lib.hid hM
  have HS := Lib.hid hS
  have HY := Lib.hid hY
  have HK := Lib.hid hok
  have en : ∀ args w, (callFunc 66 args).run Try.prog w = .ok (.enter 66 args) w := enters_of Try.func66 (by kernel_rfl) rfl
  have M0 := hM 0 W h0
  have q0 := M0.q1
  obtain ⟨M, hM2⟩ : ∃ M, 2 ^ nl = M := ⟨_, rfl⟩
  have hMle : M ≤ 256 := by
    have : 2 ^ nl ≤ 2 ^ 8 := Nat.pow_le_pow_right (by omega) hl
    omega
  have hsh : IntKind.u64.wrap ((2 : Int) ^ nl) = (M : Int) := by
    have e : (2 : Int) ^ nl = (M : Int) := by rw [← hM2]; simp
    rw [e, IntKind.wrap_u64]; omega
  have HM2 := Lib.hid hM2
  clear hM hS hY hok hM2
  refine (callsIn_wide (n := 3)).1 (callsIn_of_wp Try.func63 rfl trivial ?_ rfl)
  simp only [Try.ntmps63, List.size_toArray, List.length_cons, List.length_nil, Nat.reduceAdd, Nat.reduceSub, Array.replicate_succ, Array.replicate_zero, List.push_toArray, List.append_toArray, List.nil_append, List.cons_append]
  gi_wp2
  clear hsh q0 M0
  have hM := HM.out
  gi_loopw [10] (fun i (wr : World) => ∃ s : Nat, s ≤ M ∧ i = .int .u64 s ∧ J (((List.range s).filter (sel np nl pl ls wrong)).length) wr) (fun i _ => M - (intOf i).toNat)
  case atStart => exact ⟨0, Nat.zero_le _, rfl, h0⟩
  case round =>
    obtain ⟨s, hs, rfl, hJ⟩ := hrel
    clear h0
    have M1 := hM _ _ hJ
    have q1 := M1.q1
    have q2 := M1.q2
    have HP := Lib.hid M1.HP
    have HL := Lib.hid M1.HL
    have lb1 : b1 < wr.heap.size := World.block_lt_of_cell? wr _ (q1 0)
    have lb2 : b2 < wr.heap.size := World.block_lt_of_cell? wr _ q2
    have HJ := Lib.hid hJ
    clear M1 hJ hM
    by_cases hlt : s < M
    · cases e1 : ((cnt 8 s : Int) == wrong)
      · have e2 : ((cnt 8 s : Int) != wrong) = true := by simp [bne, e1]
        gi_wp2
        refine wpIn_wide.2 ?_
        have hcq := fun p : Regrown => (bcell (below_regrown wr p.d p.os)).1
        refine wp_region_quiet_below (by kernel_rfl) (by kernel_rfl) ?_
        repeat (go_big_quiet_step (((go_at_call 64; exact regrown_left (ones_c _ _ (by omega))))))
        refine wpQuiet_nil ?_
        intro w1 hq
        obtain ⟨pq, hq⟩ := hq
        have hb1 : Below wr.heap.size wr w1 := by rw [hq]; exact below_regrown _ _ _
        clear hq hcq pq
        obtain ⟨hc1, hf1⟩ := bcell hb1
        have z1 := hb1.size
        gi_wp2
        go_roundw
        case rel => exact ⟨s + 1, by omega, by go_num, by
          rw [sel_succ_no (by simp [sel, e1])]
          exact HS.out _ _ _ HJ.out hb1⟩
        case measure => simp [intOf]; omega
      · have e2 : ((cnt 8 s : Int) != wrong) = false := by simp [bne, e1]
        gi_wp2
        refine wpIn_wide.2 ?_
        have hcq := fun p : Regrown => (bcell (below_regrown wr p.d p.os)).1
        refine wp_region_quiet_below (by kernel_rfl) (by kernel_rfl) ?_
        repeat (go_big_quiet_step (((go_at_call 64; exact regrown_left (ones_c _ _ (by omega))))))
        refine wpQuiet_nil ?_
        intro w1 hq
        obtain ⟨pq, hq⟩ := hq
        have hb1 : Below wr.heap.size wr w1 := by rw [hq]; exact below_regrown _ _ _
        clear hq hcq pq
        obtain ⟨hc1, hf1⟩ := bcell hb1
        have z1 := hb1.size
        gi_wp2
        refine ⟨trivial, callsIn_wide.2 ((flow_c Ap Al np cp nl cl _ wrg #[.int .u64 s] #[] s.testBit pl ls w1 hp hl (HP.out.later hb1) (HL.out.later hb1) en (fun k hk w' hb => ?_)).mono ?_)⟩
        · have := (has_c_q11 s k w' (by omega) (by omega)).mono (R' := fun e w'' => e = .returned (.bool (s.testBit k)) ∧ Below w'.heap.size w' w'') (fun e w'' ⟨h1, h2⟩ => ⟨by rw [h1]; simp, h2 ▸ Below.refl _ _⟩)
          simpa using this
        rintro e w2 ⟨A, c, rfl, hpp, hb2⟩
        have HPP := Lib.hid hpp
        have hbw := hb1.trans (hb2.mono hb1.size)
        cases e3 : canL (2 * nl + np + 1) (flowL np nl pl ls s.testBit)
        · have HE3 := Lib.hid e3
          gi_wp2
          refine ⟨trivial, callsIn_wide.2 ((can_c A _ c _ w2 (by omega) hpp (fun k => (flow_at HK.out k).1)).mono ?_)⟩
          rw [e3]
          (rintro e w3 ⟨rfl, hb3⟩; obtain ⟨hc3, hf3⟩ := bcell hb3; have zs3 := hb3.size; (try simp at zs3))
          clear hpp
          gi_wp2
          refine ⟨fun _ h => (by cases h), ?_⟩
          gi_wp2
          go_roundw
          case rel => exact ⟨s + 1, by omega, by go_num, by
            rw [sel_succ_no (by simp [sel, HE3.out])]
            exact HS.out _ _ _ HJ.out (hbw.trans (hb3.mono hbw.size))⟩
          case measure => simp [intOf]; omega
        · have HE3 := Lib.hid e3
          gi_wp2
          refine ⟨trivial, callsIn_wide.2 ((can_c A _ c _ w2 (by omega) hpp (fun k => (flow_at HK.out k).1)).mono ?_)⟩
          rw [e3]
          (rintro e w3 ⟨rfl, hb3⟩; obtain ⟨hc3, hf3⟩ := bcell hb3; have zs3 := hb3.size; (try simp at zs3))
          clear hpp
          have hbw3 := hbw.trans (hb3.mono hbw.size)
          obtain ⟨fn, tmps, assign, body, hy, hR⟩ := HY.out _ s #[.slice A (2 * nl + np + 1) c, .int .u64 s] w3 (sel_get (by rw [HM2.out]; exact hlt) (by simp [sel, e1, HE3.out])) (HS.out _ _ _ HJ.out hbw3) ⟨A, c, rfl, HPP.out.later hb3⟩
          gi_wp2
          refine (hR _).mono ?_
          rintro e W4 (⟨rfl, hJ4⟩ | ⟨rfl, hJ4⟩)
          · have HJ4 := Lib.hid hJ4
            clear hJ4 hy hR
            gi_wp2
            go_roundw
            case rel => exact ⟨s + 1, by omega, by go_num, by
              rw [sel_succ_yes (by simp [sel, e1, HE3.out])]
              exact HJ4.out⟩
            case measure => simp [intOf]; omega
          · have HJ4 := Lib.hid hJ4
            clear hJ4 hy hR
            gi_wp2
            refine bodyPost_ret (results_none rfl _ _ _) rfl ?_
            exact ⟨⟨_, rfl⟩, .inr HJ4.out⟩
    · obtain rfl : M = s := by omega
      gi_wp2
      go_end0
      exact ⟨⟨_, rfl⟩, .inl (by have := HJ.out; rw [← HM2.out] at this; exact this)⟩

end Go.Proofs.Ytdhlnlmhdacblaa

namespace Go.Proofs.Ytdhlnlmhdacblaa
open Go.RowKit
open Go.Sort (grow)
set_option linter.unusedVariables false
set_option linter.unusedSimpArgs false

/-- what nets hands back -/
def NetsRet (Ap Al : Option Addr) (np cp nl cl : Nat) (wrg wrong : Int) (pl : List Sp) (ls : List Ln) (w : World) (e : Ending) (w' : World) : Prop :=
  ∃ b1 b2, e = .returned (.func (.func 63) #[] #[.pointer (some ⟨b1, 0, none⟩), .pointer (some ⟨b2, 0, none⟩)]) ∧ w.heap.size ≤ b1 ∧ w.heap.size ≤ b2 ∧
    NetMem b1 b2 Ap Al np cp nl cl wrg wrong pl ls w' ∧ Below w.heap.size w w'

set_option maxHeartbeats 400000 in
theorem nets_c (Ap Al : Option Addr) (np cp nl cl : Nat) (wrg wrong : Int) (pl : List Sp) (ls : List Ln) (w : World) (HP : SpsAt w Ap np pl) (HL : LnsAt w Al nl ls) :
    Calls Try.prog 36 #[.agg #[.slice Ap np cp, .slice Al nl cl, .int .i64 wrg], .int .i64 wrong] w (NetsRet Ap Al np cp nl cl wrg wrong pl ls w) := by
  have HPI := Lib.hid HP
  have HLI := Lib.hid HL
  clear HP HL
  go_enter Try.func36, Try.ntmps36
  go_wp2
  have hb : Below w.heap.size w ((w.alloc (.cells #[.slice Ap np cp, .slice Al nl cl, .int .i64 wrg] 48)).alloc (.cells #[.int .i64 wrong] 3)) := by (repeat first | with_reducible assumption | with_reducible exact Below.refl _ _ | refine below_drewN ?_ _ | refine Below.drew ?_ | refine Below.alloc ?_ (by first | omega | (with_reducible exact Below.size (by assumption)) | (simp; done) | (simp; omega)) _ | refine Below.setCell ?_ (by first | omega | (with_reducible exact Below.size (by assumption)) | (simp; done) | (simp; omega)) _ | refine below_step (by assumption) (by first | omega | (with_reducible exact Below.size (by assumption)) | (simp; done) | (simp; omega)) ?_)
  go_ret
  exact ⟨w.heap.size, w.heap.size + 1, rfl, Nat.le_refl _, Nat.le_succ _, ⟨(al2_0 rfl).2.1, (al2_1 rfl).2.1 0, HPI.out.later hb, HLI.out.later hb⟩, hb⟩

set_option maxHeartbeats 400000 in
theorem truths_c_q11 (Ap Al : Option Addr) (np cp nl cl : Nat) (wrg : Int) (pl : List Sp) (ls : List Ln) (w : World) (hl : nl ≤ 40) (HP : SpsAt w Ap np pl) (HL : LnsAt w Al nl ls) :
    Calls Try.prog 45 #[.agg #[.slice Ap np cp, .slice Al nl cl, .int .i64 wrg]] w (NetsRet Ap Al np cp nl cl wrg (min wrg nl) pl ls w) := by
  have HPI := Lib.hid HP
  have HLI := Lib.hid HL
  clear HP HL
  by_cases hle : wrg ≤ (nl : Int)
  · rw [show min wrg (nl : Int) = wrg by omega]
    go_enter Try.func45, Try.ntmps45
    go_wp2_with fail
    refine (nets_c Ap Al np cp nl cl wrg _ pl ls _ (HPI.out.later (by (repeat first | with_reducible assumption | with_reducible exact Below.refl _ _ | refine below_drewN ?_ _ | refine Below.drew ?_ | refine Below.alloc ?_ (by first | omega | (with_reducible exact Below.size (by assumption)) | (simp; done) | (simp; omega)) _ | refine Below.setCell ?_ (by first | omega | (with_reducible exact Below.size (by assumption)) | (simp; done) | (simp; omega)) _ | refine below_step (by assumption) (by first | omega | (with_reducible exact Below.size (by assumption)) | (simp; done) | (simp; omega)) ?_))) (HLI.out.later (by (repeat first | with_reducible assumption | with_reducible exact Below.refl _ _ | refine below_drewN ?_ _ | refine Below.drew ?_ | refine Below.alloc ?_ (by first | omega | (with_reducible exact Below.size (by assumption)) | (simp; done) | (simp; omega)) _ | refine Below.setCell ?_ (by first | omega | (with_reducible exact Below.size (by assumption)) | (simp; done) | (simp; omega)) _ | refine below_step (by assumption) (by first | omega | (with_reducible exact Below.size (by assumption)) | (simp; done) | (simp; omega)) ?_)))).mono ?_
    rintro e w1 ⟨b1, b2, rfl, h1, h2, hm, hb1⟩
    have HM := Lib.hid hm
    have zs1 := hb1.size
    simp only [World.size_alloc] at h1 h2 zs1
    clear hm
    go_wp2
    go_ret
    exact ⟨b1, b2, rfl, by omega, by omega, HM.out, by (repeat first | with_reducible assumption | with_reducible exact Below.refl _ _ | refine below_drewN ?_ _ | refine Below.drew ?_ | refine Below.alloc ?_ (by first | omega | (with_reducible exact Below.size (by assumption)) | (simp; done) | (simp; omega)) _ | refine Below.setCell ?_ (by first | omega | (with_reducible exact Below.size (by assumption)) | (simp; done) | (simp; omega)) _ | refine below_step (by assumption) (by first | omega | (with_reducible exact Below.size (by assumption)) | (simp; done) | (simp; omega)) ?_)⟩
  · rw [show min wrg (nl : Int) = nl by omega]
    go_enter Try.func45, Try.ntmps45
    go_wp2_with fail
    refine (nets_c Ap Al np cp nl cl wrg _ pl ls _ (HPI.out.later (by (repeat first | with_reducible assumption | with_reducible exact Below.refl _ _ | refine below_drewN ?_ _ | refine Below.drew ?_ | refine Below.alloc ?_ (by first | omega | (with_reducible exact Below.size (by assumption)) | (simp; done) | (simp; omega)) _ | refine Below.setCell ?_ (by first | omega | (with_reducible exact Below.size (by assumption)) | (simp; done) | (simp; omega)) _ | refine below_step (by assumption) (by first | omega | (with_reducible exact Below.size (by assumption)) | (simp; done) | (simp; omega)) ?_))) (HLI.out.later (by (repeat first | with_reducible assumption | with_reducible exact Below.refl _ _ | refine below_drewN ?_ _ | refine Below.drew ?_ | refine Below.alloc ?_ (by first | omega | (with_reducible exact Below.size (by assumption)) | (simp; done) | (simp; omega)) _ | refine Below.setCell ?_ (by first | omega | (with_reducible exact Below.size (by assumption)) | (simp; done) | (simp; omega)) _ | refine below_step (by assumption) (by first | omega | (with_reducible exact Below.size (by assumption)) | (simp; done) | (simp; omega)) ?_)))).mono ?_
    rintro e w1 ⟨b1, b2, rfl, h1, h2, hm, hb1⟩
    have HM := Lib.hid hm
    have zs1 := hb1.size
    simp only [World.size_alloc] at h1 h2 zs1
    clear hm
    go_wp2
    go_ret
    exact ⟨b1, b2, rfl, by omega, by omega, HM.out, by (repeat first | with_reducible assumption | with_reducible exact Below.refl _ _ | refine below_drewN ?_ _ | refine Below.drew ?_ | refine Below.alloc ?_ (by first | omega | (with_reducible exact Below.size (by assumption)) | (simp; done) | (simp; omega)) _ | refine Below.setCell ?_ (by first | omega | (with_reducible exact Below.size (by assumption)) | (simp; done) | (simp; omega)) _ | refine below_step (by assumption) (by first | omega | (with_reducible exact Below.size (by assumption)) | (simp; done) | (simp; omega)) ?_)⟩

theorem lns_tame {B : Nat} {W W' : World} {n : Nat} {A : Option Addr} {xs : List Ln} (h : Tame B W W') (hx : LnsAt W A n xs) : LnsAt W' A n xs := ⟨hx.1, h.rows hx.2⟩
theorem pps_tame {B : Nat} {W W' : World} {n : Nat} {A : Option Addr} {xs : List Pp} (h : Tame B W W') (hx : PpsAt W A n xs) : PpsAt W' A n xs := ⟨hx.1, h.rows hx.2⟩
theorem NetMem.tame {b1 b2 : Nat} {Ap Al : Option Addr} {np cp nl cl : Nat} {wrg wrong : Int} {pl : List Sp} {ls : List Ln} {B : Nat} {W W' : World} (h : NetMem b1 b2 Ap Al np cp nl cl wrg wrong pl ls W) (ht : Tame B W W') :
    NetMem b1 b2 Ap Al np cp nl cl wrg wrong pl ls W' := by
  obtain ⟨h1, h2, h3, h4⟩ := h
  obtain ⟨o, ho, hc⟩ := cells_of_cell (a := ⟨b1, 0, none⟩) (h1 0)
  exact ⟨fun i => (World.cell?_of_block (a := ⟨b1, i, none⟩) (ht.heap ho hc)).trans (h1 i), ht.cell h2, ht.sps h3, lns_tame ht h4⟩
theorem NetMem.below {b1 b2 : Nat} {Ap Al : Option Addr} {np cp nl cl : Nat} {wrg wrong : Int} {pl : List Sp} {ls : List Ln} {W W' : World} (h : NetMem b1 b2 Ap Al np cp nl cl wrg wrong pl ls W) (hb : Below W.heap.size W W') :
    NetMem b1 b2 Ap Al np cp nl cl wrg wrong pl ls W' := h.tame (B := 0) (.of_below hb)

end Go.Proofs.Ytdhlnlmhdacblaa
