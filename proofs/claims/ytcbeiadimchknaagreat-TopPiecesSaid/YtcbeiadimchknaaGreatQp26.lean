/- isGood of repairs (layer 7). -/
import Derived.Test.YtcbeiadimchknaaGreatQp25
namespace Go.Proofs.YtcbeiadimchknaaGreat
open Go.RowKit
open Go.Sort (grow)
set_option linter.unusedVariables false
set_option linter.unusedSimpArgs false

theorem run_max2_q7 {P : Program} {w : World} (ts : Array TypeId) (t : TypeId) (x y : Int) : (Builtin.max_ ts t #[.int .i64 x, .int .i64 y]).run P w = .ok (.int .i64 (max x y)) w := by
  simp [Builtin.max_, Builtin.max2, Int.max_def]
  omega
set_option maxHeartbeats 400000 in
theorem shackles_c (x n : Nat) (w : World) (hx : x < 65536) (hn : n ≤ 40) :
    Calls Tryz.prog 29 #[.int .u64 x, .int .i64 n] w fun e w' => e = .returned (.int .i64 (shk x n)) ∧ Below w.heap.size w w' := by
  have hle := pcs_len x n
  go_enter Tryz.func29, Tryz.ntmps29
  go_wp2_with fail
  refine (pieces_c x n _ hx hn).mono ?_
  rintro e w1 ⟨A, c, rfl, -, hb1⟩
  obtain ⟨m, hm⟩ : ∃ m, (pcs x n).length = m := ⟨_, rfl⟩
  have hsh : Hid (shk x n = max 0 ((m : Int) - 1)) := by show _ = _; unfold shk; rw [hm]
  rw [hm] at hle ⊢
  clear hm
  by_cases h : (m : Int) ≤ 0
  · go_wp2
    all_goals
      go_ret
      exact ⟨ret_int (by rw [hsh.out]; omega), hb1⟩
  · go_wp2
    all_goals
      go_ret
      exact ⟨ret_int (by rw [hsh.out]; omega), hb1⟩
theorem short_c (b : Nat) (A : Option Addr) (n c : Nat) (q : Cb) (v : Int) (w : World) (h : w.cell? ⟨b, 2, none⟩ = some (.int .i64 q.gap)) :
    Calls Tryz.prog 96 #[.int .i64 v, .pointer (some ⟨b, 0, none⟩)] w fun e w' => e = .returned (.bool (decide (v < q.gap))) ∧ Below w.heap.size w w' := by
  go_enter Tryz.func96, Tryz.ntmps96
  go_wp2
  all_goals
    go_ret
    exact ⟨rfl, by (repeat first | with_reducible assumption | with_reducible exact Below.refl _ _ | (with_reducible refine Below.alloc ?_ ?side _; case side => (first | omega | (with_reducible exact Below.size (by assumption)) | (simp; done) | (simp; omega))) | (with_reducible refine Below.setCell ?_ ?side _; case side => (first | omega | (with_reducible exact Below.size (by assumption)) | (simp; done) | (simp; omega))) | with_reducible refine Below.drew ?_ | with_reducible refine below_drewN ?_ _ | (with_reducible refine below_step (by assumption) ?side ?_; case side => (first | omega | (with_reducible exact Below.size (by assumption)) | (simp; done) | (simp; omega))))⟩
theorem keep4 {wr w' : World} {p0 p1 p2 p3 : Addr} {v0 v1 v2 v3 : Value} (hb : Below wr.heap.size wr w') (h0 : wr.cell? p0 = some v0) (h1 : wr.cell? p1 = some v1) (h2 : wr.cell? p2 = some v2) (h3 : wr.cell? p3 = some v3)
    (l0 : p0.block < wr.heap.size) (l1 : p1.block < wr.heap.size) (l2 : p2.block < wr.heap.size) (l3 : p3.block < wr.heap.size) : w'.cell? p0 = some v0 ∧ w'.cell? p1 = some v1 ∧ w'.cell? p2 = some v2 ∧ w'.cell? p3 = some v3 :=
  ⟨(hb.cell l0).trans h0, (hb.cell l1).trans h1, (hb.cell l2).trans h2, (hb.cell l3).trans h3⟩
/-- of the first k that are left, how many are doubtful -/
def dbK (need : Int) (ls : List Sp) (x n k : Nat) : Nat := (((lefN x n).take k).filter fun i => decide ((spAt ls i).lo < need)).length
theorem dbK_le (need : Int) (ls : List Sp) (x n k : Nat) : dbK need ls x n k ≤ k := by
  unfold dbK
  exact Nat.le_trans (List.length_filter_le _ _) (List.length_take_le _ _)
theorem dbK_all (need : Int) (ls : List Sp) (x n : Nat) : dbK need ls x n (lefN x n).length = dbt need ls x n := by
  unfold dbK dbt
  rw [List.take_length, lefN, List.filter_filter]
  congr 1
  refine List.filter_congr fun i _ => ?_
  rw [Bool.and_comm]
theorem dbK_succ {need : Int} {ls : List Sp} {x n k i : Nat} (h : (lefN x n)[k]? = some i) : dbK need ls x n (k + 1) = dbK need ls x n k + (if (spAt ls i).lo < need then 1 else 0) := by
  unfold dbK
  rw [List.take_add_one, h, List.filter_append, List.length_append]
  congr 1
  by_cases e : (spAt ls i).lo < need <;> simp [e]
theorem lef_mem {x n i : Nat} : i ∈ lefN x n ↔ i < n ∧ x.testBit i = false := by simp [lefN, List.mem_filter]
theorem good_weak {q : Cb} {ls : List Sp} {n x i : Nat} (hi : i ∈ lefN x n) (h : (spAt ls i).hi < q.need) : goodB q ls n x = false := by
  refine Bool.eq_false_iff.2 fun e => ?_
  obtain ⟨h1, h2⟩ := lef_mem.1 hi
  rcases (goodB_iff.1 e).1 i h1 with h3 | h3
  · rw [h2] at h3; cases h3
  · omega
theorem good_eq {q : Cb} {ls : List Sp} {n x : Nat} (h : ∀ i ∈ lefN x n, q.need ≤ (spAt ls i).hi) :
    goodB q ls n x = (decide ((dbt q.need ls x n : Int) ≤ q.doubt) && (decide (q.least ≤ ((lefN x n).length : Int)) && (decide (shk x n ≤ q.joins) && !anyN (pcs x n).length fun k => decide (iAt (pcs x n) k < q.gap)))) := by
  have a : allN n (fun i => x.testBit i || decide (q.need ≤ (spAt ls i).hi)) = true := allN_iff.2 fun i hi => by
    cases e : x.testBit i
    · have := h i (lef_mem.2 ⟨hi, e⟩)
      simp [this]
    · rfl
  have b : (pcs x n).all (fun k => decide (q.gap ≤ k)) = !anyN (pcs x n).length fun k => decide (iAt (pcs x n) k < q.gap) := by
    rw [Bool.eq_iff_iff, List.all_eq_true]
    unfold anyN
    rw [Bool.not_not, allN_iff]
    constructor
    · intro h k hk
      have := h _ (iAt_mem_q7 hk)
      simp at this ⊢; omega
    · intro h v hv
      obtain ⟨k, hk, rfl⟩ := List.getElem_of_mem hv
      have := h k hk
      have e : iAt (pcs x n) k = (pcs x n)[k] := by unfold iAt; rw [List.getD_eq_getElem?_getD, List.getElem?_eq_getElem hk]; rfl
      simp only [e] at this
      simp at this ⊢; omega
  rw [goodB, a, b]
  rfl
theorem ints_at {l : List Nat} {k i : Nat} (h : l[k]? = some i) : iAt (ints l) k = (i : Int) := by
  unfold iAt ints; rw [List.getD_eq_getElem?_getD, List.getElem?_map, h]; rfl

set_option maxRecDepth 100000 in
set_option maxHeartbeats 3200000 in
theorem isGood_c (A : Option Addr) (n c x : Nat) (q : Cb) (ls : List Sp) (w : World) (hx : x < 65536) (hn : n ≤ 40) (HL : SpsAt w A n ls) :
    Calls Tryz.prog 79 #[.agg #[.slice A n c, .int .i64 q.need, .int .i64 q.gap, .int .i64 q.doubt, .int .i64 q.joins, .int .i64 q.least], .int .u64 x] w fun e w' => e = .returned (.bool (goodB q ls n x)) ∧ Below w.heap.size w w' := by
  have HLI := Lib.hid HL
  clear HL
  go_enter Tryz.func79, Tryz.ntmps79
  go_wp2_with fail
  refine (list_c x n false _ hx hn).mono ?_
  rw [selN_false]
  rintro e w1 ⟨A1, c1, rfl, hi1, hb1⟩
  obtain ⟨m, hm⟩ : ∃ m, (lefN x n).length = m := ⟨_, rfl⟩
  have hmn : m ≤ n := by rw [← hm, ← selN_false]; exact selN_len x n false
  rw [hm] at hi1 ⊢
  have HM := Lib.hid hm
  have HI := Lib.hid hi1
  have z1 := hb1.size
  simp only [World.size_alloc] at z1
  have d0 := Lib.hid (fun i => (hb1.cell (p := ⟨w.heap.size, i, none⟩) (by simp)).trans ((al1_0 rfl).2.1 i))
  have n1 : w.heap.size < w1.heap.size := by omega
  have B1 : Below w.heap.size w w1 := by (repeat first | with_reducible assumption | with_reducible exact Below.refl _ _ | (with_reducible refine Below.alloc ?_ ?side _; case side => (first | omega | (with_reducible exact Below.size (by assumption)) | (simp; done) | (simp; omega))) | (with_reducible refine Below.setCell ?_ ?side _; case side => (first | omega | (with_reducible exact Below.size (by assumption)) | (simp; done) | (simp; omega))) | with_reducible refine Below.drew ?_ | with_reducible refine below_drewN ?_ _ | (with_reducible refine below_step (by assumption) ?side ?_; case side => (first | omega | (with_reducible exact Below.size (by assumption)) | (simp; done) | (simp; omega))))
  have zb1 := B1.size
  have D0 := d0.out
  clear hb1 hi1 hm
  go_wp2_with fail
  clear D0
  go_loopw [5, 6, 17] (fun a b i (wr : World) => ∃ k : Nat, k ≤ m ∧ i = .int .i64 k ∧ a = .int .i64 k ∧ b = .int .i64 (dbK q.need ls x n k) ∧ Hid (∀ i ∈ (lefN x n).take k, q.need ≤ (spAt ls i).hi) ∧ Below w1.heap.size w1 wr) (fun _ _ i _ => m - (intOf i).toNat)
  case atStart => exact ⟨0, by omega, rfl, rfl, by simp [dbK], by simp [Hid], Below.refl _ _⟩
  case round =>
    obtain ⟨k, hk, rfl, rfl, rfl, H, hb⟩ := hrel
    have zb := hb.size
    have d1 := fun i => (hb.cell (p := ⟨w.heap.size, i, none⟩) n1).trans (d0.out i)
    have n2 : w.heap.size < wr.heap.size := by omega
    have Bw : Below w.heap.size w wr := B1.trans (hb.mono zb1)
    have hdk := dbK_le q.need ls x n k
    by_cases hlt : k < m
    · have hltB : decide ((k : Int) < m) = true := by simp; omega
      obtain ⟨i, hi⟩ : ∃ i, (lefN x n)[k]? = some i := ⟨_, List.getElem?_eq_getElem (by rw [HM.out]; exact hlt)⟩
      have hmem := List.mem_of_getElem? hi
      have hin := (lef_mem.1 hmem).1
      obtain ⟨b0, o0, rfl, hb0, x0⟩ := (HI.out.later hb).get hlt
      rw [ints_at hi] at x0
      obtain ⟨b1, o1, rfl, hb1, y0, y1⟩ := (HLI.out.later Bw).get hin
      have HS := Lib.hid (dbK_succ (need := q.need) (ls := ls) hi)
      have HW := Lib.hid (fun h => good_weak (q := q) (ls := ls) hmem h)
      have HN := Lib.hid (fun (h : q.need ≤ (spAt ls i).hi) j (hj : j ∈ (lefN x n).take (k + 1)) => (by
        rw [List.take_add_one, hi] at hj
        rcases List.mem_append.1 hj with h' | h'
        · exact H.out j h'
        · obtain rfl : j = i := by simpa using h'
          exact h : q.need ≤ (spAt ls j).hi))
      obtain ⟨s, hs⟩ : ∃ s, spAt ls i = s := ⟨_, rfl⟩
      obtain ⟨dk, hdd⟩ : ∃ d, dbK q.need ls x n k = d := ⟨_, rfl⟩
      rw [hs] at y0 y1 HS HW HN
      rw [hdd] at HS hdk ⊢
      clear hs hdd hmem hi
      by_cases hw : s.hi < q.need
      · go_wp2
        go_ret
        exact ⟨ret_bool (HW.out hw).symm, by (repeat first | with_reducible assumption | with_reducible exact Below.refl _ _ | (with_reducible refine Below.alloc ?_ ?side _; case side => (first | omega | (with_reducible exact Below.size (by assumption)) | (simp; done) | (simp; omega))) | (with_reducible refine Below.setCell ?_ ?side _; case side => (first | omega | (with_reducible exact Below.size (by assumption)) | (simp; done) | (simp; omega))) | with_reducible refine Below.drew ?_ | with_reducible refine below_drewN ?_ _ | (with_reducible refine below_step (by assumption) ?side ?_; case side => (first | omega | (with_reducible exact Below.size (by assumption)) | (simp; done) | (simp; omega))))⟩
      · by_cases hdo : s.lo < q.need
        · go_wp2
          go_roundw
          case rel => exact ⟨k + 1, by omega, by go_num, by go_num, by rw [HS.out, if_pos hdo]; go_num, Lib.hid (HN.out (by omega)), by (repeat first | with_reducible assumption | with_reducible exact Below.refl _ _ | (with_reducible refine Below.alloc ?_ ?side _; case side => (first | omega | (with_reducible exact Below.size (by assumption)) | (simp; done) | (simp; omega))) | (with_reducible refine Below.setCell ?_ ?side _; case side => (first | omega | (with_reducible exact Below.size (by assumption)) | (simp; done) | (simp; omega))) | with_reducible refine Below.drew ?_ | with_reducible refine below_drewN ?_ _ | (with_reducible refine below_step (by assumption) ?side ?_; case side => (first | omega | (with_reducible exact Below.size (by assumption)) | (simp; done) | (simp; omega))))⟩
          case measure => simp [intOf]; omega
        · go_wp2
          go_roundw
          case rel => exact ⟨k + 1, by omega, by go_num, by go_num, by rw [HS.out, if_neg hdo]; rfl, Lib.hid (HN.out (by omega)), by (repeat first | with_reducible assumption | with_reducible exact Below.refl _ _ | (with_reducible refine Below.alloc ?_ ?side _; case side => (first | omega | (with_reducible exact Below.size (by assumption)) | (simp; done) | (simp; omega))) | (with_reducible refine Below.setCell ?_ ?side _; case side => (first | omega | (with_reducible exact Below.size (by assumption)) | (simp; done) | (simp; omega))) | with_reducible refine Below.drew ?_ | with_reducible refine below_drewN ?_ _ | (with_reducible refine below_step (by assumption) ?side ?_; case side => (first | omega | (with_reducible exact Below.size (by assumption)) | (simp; done) | (simp; omega))))⟩
          case measure => simp [intOf]; omega
    · obtain rfl : k = m := by omega
      have hltB : decide (((k : Nat) : Int) < k) = false := by simp
      have hall : Hid (∀ i ∈ lefN x n, q.need ≤ (spAt ls i).hi) := by
        show ∀ _, _
        intro i hi
        refine H.out i ?_
        rw [← HM.out, List.take_length]; exact hi
      have hge := good_eq hall.out
      have hdt : dbK q.need ls x n k = dbt q.need ls x n := by rw [← HM.out]; exact dbK_all ..
      obtain ⟨dk, hdd⟩ : ∃ d, dbt q.need ls x n = d := ⟨_, rfl⟩
      obtain ⟨sh, hsh⟩ : ∃ s, shk x n = s := ⟨_, rfl⟩
      obtain ⟨av, hav⟩ : ∃ a, (anyN (pcs x n).length fun k => decide (iAt (pcs x n) k < q.gap)) = a := ⟨_, rfl⟩
      obtain ⟨pl, hpl⟩ : ∃ l, (pcs x n).length = l := ⟨_, rfl⟩
      have hpl40 : pl ≤ 40 := by rw [← hpl]; exact Nat.le_trans (pcs_len x n) hn
      rw [HM.out, hdd, hsh, hav] at hge
      rw [hdd] at hdt
      rw [hdt]
      rw [hdt] at hdk
      have HG := Lib.hid hge
      have hcs : ∀ W, Calls Tryz.prog 29 #[.int .u64 x, .int .i64 n] W fun e W' => e = .returned (.int .i64 sh) ∧ Below W.heap.size W W' := fun W => by rw [← hsh]; exact shackles_c x n W hx hn
      have hcp : ∀ W, Calls Tryz.prog 58 #[.int .u64 x, .int .i64 n] W fun e W' => ∃ A c, e = .returned (.slice A pl c) ∧ IntsAt W' A pl (pcs x n) ∧ Below W.heap.size W W' := fun W => by rw [← hpl]; exact pieces_c x n W hx hn
      have en : ∀ args w, (callFunc 96 args).run Tryz.prog w = .ok (.enter 96 args) w := enters_of Tryz.func96 (by kernel_rfl) rfl
      have hcc : ∀ (B : Option Addr) (cb : Nat) W, Below wr.heap.size wr W → IntsAt W B pl (pcs x n) → Calls Tryz.prog 33 #[.slice B pl cb, .func (.func 96) #[] #[.pointer (some ⟨w.heap.size, 0, none⟩)]] W fun e W' => e = .returned (.bool av) ∧ Below W.heap.size W W' := fun B cb W hW hI => by
        have := containsFuncInt_c B pl cb _ #[] #[.pointer (some ⟨w.heap.size, 0, none⟩)] (pcs x n) (fun k => decide (iAt (pcs x n) k < q.gap)) W hpl40 hI en (fun k hk w' hb' => short_c w.heap.size A n c q _ w' (((hW.trans (hb'.mono hW.size)).cell (p := ⟨w.heap.size, 2, none⟩) n2).trans (d1 2)))
        rw [← hpl] at this ⊢
        rwa [hav] at this
      replace hcs := Lib.hid hcs
      replace hcp := Lib.hid hcp
      replace hcc := Lib.hid hcc
      have zw := Bw.size
      clear hge hdt hdd hsh hav hpl hall H en
      cases e1 : decide ((dk : Int) ≤ q.doubt)
      · rw [e1] at HG
        go_wp2_with fail
        have hcq := fun p : Regrown => (bcell (below_regrown wr p.d p.os)).1
        refine wp_region_quiet_below (by kernel_rfl) (by kernel_rfl) ?_
        repeat (go_big_quiet_step ((fail)))
        refine wpQuiet_nil ?_
        intro wq hq
        obtain ⟨pq, hq⟩ := hq
        have hbq : Below wr.heap.size wr wq := by rw [hq]; exact below_regrown _ _ _
        clear hq hcq pq
        obtain ⟨hcq, hfq⟩ := bcell hbq
        have zq := hbq.size
        go_wp2_with fail
        go_ret
        exact ⟨ret_bool (by rw [HG.out]; rfl), by (repeat first | with_reducible assumption | with_reducible exact Below.refl _ _ | (with_reducible refine Below.alloc ?_ ?side _; case side => (first | omega | (with_reducible exact Below.size (by assumption)) | (simp; done) | (simp; omega))) | (with_reducible refine Below.setCell ?_ ?side _; case side => (first | omega | (with_reducible exact Below.size (by assumption)) | (simp; done) | (simp; omega))) | with_reducible refine Below.drew ?_ | with_reducible refine below_drewN ?_ _ | (with_reducible refine below_step (by assumption) ?side ?_; case side => (first | omega | (with_reducible exact Below.size (by assumption)) | (simp; done) | (simp; omega))))⟩
      cases e2 : decide (q.least ≤ (k : Int))
      · rw [e1, e2] at HG
        go_wp2_with fail
        have hcq := fun p : Regrown => (bcell (below_regrown wr p.d p.os)).1
        refine wp_region_quiet_below (by kernel_rfl) (by kernel_rfl) ?_
        repeat (go_big_quiet_step ((fail)))
        refine wpQuiet_nil ?_
        intro wq hq
        obtain ⟨pq, hq⟩ := hq
        have hbq : Below wr.heap.size wr wq := by rw [hq]; exact below_regrown _ _ _
        clear hq hcq pq
        obtain ⟨hcq, hfq⟩ := bcell hbq
        have zq := hbq.size
        go_wp2_with fail
        go_ret
        exact ⟨ret_bool (by rw [HG.out]; rfl), by (repeat first | with_reducible assumption | with_reducible exact Below.refl _ _ | (with_reducible refine Below.alloc ?_ ?side _; case side => (first | omega | (with_reducible exact Below.size (by assumption)) | (simp; done) | (simp; omega))) | (with_reducible refine Below.setCell ?_ ?side _; case side => (first | omega | (with_reducible exact Below.size (by assumption)) | (simp; done) | (simp; omega))) | with_reducible refine Below.drew ?_ | with_reducible refine below_drewN ?_ _ | (with_reducible refine below_step (by assumption) ?side ?_; case side => (first | omega | (with_reducible exact Below.size (by assumption)) | (simp; done) | (simp; omega))))⟩
      cases e3 : decide (sh ≤ q.joins)
      · rw [e1, e2, e3] at HG
        go_wp2_with fail
        have hcq := fun p : Regrown => (bcell (below_regrown wr p.d p.os)).1
        refine wp_region_quiet_below (by kernel_rfl) (by kernel_rfl) ?_
        repeat (go_big_quiet_step (((go_at_call 29; exact Calls.regrown_of (hcs.out _)))))
        refine wpQuiet_nil ?_
        intro wq hq
        obtain ⟨pq, hq⟩ := hq
        have hbq : Below wr.heap.size wr wq := by rw [hq]; exact below_regrown _ _ _
        clear hq hcq pq
        obtain ⟨hcq, hfq⟩ := bcell hbq
        have zq := hbq.size
        go_wp2_with fail
        go_ret
        exact ⟨ret_bool (by rw [HG.out]; rfl), by (repeat first | with_reducible assumption | with_reducible exact Below.refl _ _ | (with_reducible refine Below.alloc ?_ ?side _; case side => (first | omega | (with_reducible exact Below.size (by assumption)) | (simp; done) | (simp; omega))) | (with_reducible refine Below.setCell ?_ ?side _; case side => (first | omega | (with_reducible exact Below.size (by assumption)) | (simp; done) | (simp; omega))) | with_reducible refine Below.drew ?_ | with_reducible refine below_drewN ?_ _ | (with_reducible refine below_step (by assumption) ?side ?_; case side => (first | omega | (with_reducible exact Below.size (by assumption)) | (simp; done) | (simp; omega))))⟩
      · rw [e1, e2, e3] at HG
        go_wp2_with fail
        go_region_held3 (fun w' => w'.cell? ⟨w.heap.size, 0, none⟩ = some (.slice A n c) ∧ w'.cell? ⟨w.heap.size, 3, none⟩ = some (.int .i64 q.doubt) ∧ w'.cell? ⟨w.heap.size, 4, none⟩ = some (.int .i64 q.joins) ∧ w'.cell? ⟨w.heap.size, 5, none⟩ = some (.int .i64 q.least))
          (exact keep4 (wr := wr) (by (repeat first | with_reducible assumption | with_reducible exact Below.refl _ _ | (with_reducible refine Below.alloc ?_ ?side _; case side => (first | omega | (with_reducible exact Below.size (by assumption)) | (simp; done) | (simp; omega))) | (with_reducible refine Below.setCell ?_ ?side _; case side => (first | omega | (with_reducible exact Below.size (by assumption)) | (simp; done) | (simp; omega))) | with_reducible refine Below.drew ?_ | with_reducible refine below_drewN ?_ _ | (with_reducible refine below_step (by assumption) ?side ?_; case side => (first | omega | (with_reducible exact Below.size (by assumption)) | (simp; done) | (simp; omega))))) (d1 0) (d1 3) (d1 4) (d1 5) n2 n2 n2 n2)
          (first
            | (go_at_call 29; refine (hcs.out _).mono ?_; (rintro e w2 ⟨rfl, hb2⟩); have z2 := hb2.size; (try simp only [World.size_drew] at z2))
            | (go_at_call 58; refine (hcp.out _).mono ?_; (rintro e w3 ⟨G3, c3, rfl, hi3, hb3⟩); have HI3 := Lib.hid hi3; have z3 := hb3.size; (try simp only [World.size_drew] at z3); clear hi3)
            | (go_at_call 33; refine (hcc.out _ _ _ (by (repeat first | with_reducible assumption | with_reducible exact Below.refl _ _ | (with_reducible refine Below.alloc ?_ ?side _; case side => (first | omega | (with_reducible exact Below.size (by assumption)) | (simp; done) | (simp; omega))) | (with_reducible refine Below.setCell ?_ ?side _; case side => (first | omega | (with_reducible exact Below.size (by assumption)) | (simp; done) | (simp; omega))) | with_reducible refine Below.drew ?_ | with_reducible refine below_drewN ?_ _ | (with_reducible refine below_step (by assumption) ?side ?_; case side => (first | omega | (with_reducible exact Below.size (by assumption)) | (simp; done) | (simp; omega))))) (HI3.out.later (by (repeat first | with_reducible assumption | with_reducible exact Below.refl _ _ | (with_reducible refine Below.alloc ?_ ?side _; case side => (first | omega | (with_reducible exact Below.size (by assumption)) | (simp; done) | (simp; omega))) | (with_reducible refine Below.setCell ?_ ?side _; case side => (first | omega | (with_reducible exact Below.size (by assumption)) | (simp; done) | (simp; omega))) | with_reducible refine Below.drew ?_ | with_reducible refine below_drewN ?_ _ | (with_reducible refine below_step (by assumption) ?side ?_; case side => (first | omega | (with_reducible exact Below.size (by assumption)) | (simp; done) | (simp; omega))))))).mono ?_; (rintro e w4 ⟨rfl, hb4⟩); have z4 := hb4.size; (try simp only [World.size_drew] at z4)))
        all_goals
          go_wp2_with fail
          go_ret
          exact ⟨ret_bool (by rw [HG.out]; rfl), by (repeat first | with_reducible assumption | with_reducible exact Below.refl _ _ | (with_reducible refine Below.alloc ?_ ?side _; case side => (first | omega | (with_reducible exact Below.size (by assumption)) | (simp; done) | (simp; omega))) | (with_reducible refine Below.setCell ?_ ?side _; case side => (first | omega | (with_reducible exact Below.size (by assumption)) | (simp; done) | (simp; omega))) | with_reducible refine Below.drew ?_ | with_reducible refine below_drewN ?_ _ | (with_reducible refine below_step (by assumption) ?side ?_; case side => (first | omega | (with_reducible exact Below.size (by assumption)) | (simp; done) | (simp; omega))))⟩

end Go.Proofs.YtcbeiadimchknaaGreat
