/- IsProof of the specification (layer 11), for the members of a set of places. -/
import Derived.Test.YtoehifincdflhaaPr11
import Derived.Test.YtoehifincdflhaaG11
import Derived.Test.YtoehifincdflhaaRm11
namespace Go.Proofs.Ytoehifincdflhaa
open Go.RowKit
open Go.Sort (grow)
set_option linter.unusedVariables false

theorem memK_get {s n k : Nat} (hk : k < (memK s n).length) : (memK s n)[k] < n ∧ s.testBit (memK s n)[k] = true := by
  have h : (memK s n)[k] ∈ (List.range n).filter s.testBit := List.getElem_mem hk
  rw [List.mem_filter, List.mem_range] at h
  exact h
theorem memK_sorted (s n : Nat) : (memK s n).Pairwise (· < ·) := List.Pairwise.filter _ List.pairwise_lt_range
theorem memK_lt {s n i j : Nat} (hij : i < j) (hj : j < (memK s n).length) : (memK s n)[i]'(by omega) < (memK s n)[j] := List.pairwise_iff_getElem.1 (memK_sorted s n) i j (by omega) hj hij
/-- a sum over the members is one over all places -/
theorem memK_sum (s : Nat) (f : Nat → Int) (n : Nat) : sumF (fun i => f ((memK s n).getD i 0)) (memK s n).length = sumF (fun j => bif s.testBit j then f j else 0) n := by
  induction n with
  | zero => rfl
  | succ n ih =>
    cases h : s.testBit n
    · rw [memK_succ_no h]
      simp only [sumF, h, cond_false, Int.add_zero]
      exact ih
    · rw [memK_succ h]
      simp only [sumF, h, cond_true, List.length_append, List.length_cons, List.length_nil]
      have e1 : (memK s n ++ [n]).getD (memK s n).length 0 = n := by rw [List.getD_eq_getElem?_getD, List.getElem?_append_right (Nat.le_refl _)]; simp
      rw [e1, ← ih]
      have e2 : sumF (fun i => f ((memK s n ++ [n]).getD i 0)) (memK s n).length = sumF (fun i => f ((memK s n).getD i 0)) (memK s n).length :=
        sumF_congr fun i hi => by rw [List.getD_eq_getElem?_getD, List.getElem?_append_left hi, ← List.getD_eq_getElem?_getD]
      rw [e2]
/-- a line's end is among the members just if its bit is set -/
theorem in_mem {s np : Nat} {t : Int} (ht : t = -1 ∨ (0 ≤ t ∧ t < np)) : (anyN (memK s np).length fun k => iAt ((memK s np).map fun k : Nat => (k : Int)) k == t) = hsB s t := by
  have gt : ∀ k (hk : k < (memK s np).length), iAt ((memK s np).map fun k : Nat => (k : Int)) k = ((memK s np)[k] : Int) := fun k hk => by
    unfold iAt; rw [List.getD_eq_getElem?_getD, List.getElem?_map, List.getElem?_eq_getElem hk]; rfl
  cases h : hsB s t
  · refine anyN_no fun k hk => ?_
    rw [gt k hk]
    obtain ⟨h1, h2⟩ := memK_get hk
    refine Bool.eq_false_iff.2 fun e => ?_
    have e' : ((memK s np)[k] : Int) = t := by simpa using e
    subst e'
    simp [hsB, h2] at h
  · simp only [hsB, Bool.and_eq_true, decide_eq_true_eq] at h
    have hm : t.toNat ∈ memK s np := by
      unfold memK
      rw [List.mem_filter]
      exact ⟨by simp; omega, h.2⟩
    obtain ⟨k, hk, e⟩ := List.getElem_of_mem hm
    refine anyN_yes hk ?_
    rw [gt k hk, e]
    simp; omega
theorem sumF_neg' (f : Nat → Int) (n : Nat) : sumF (fun i => -f i) n = -sumF f n := by
  induction n with
  | zero => rfl
  | succ n ih => simp only [sumF, ih]; omega
def memI (s np : Nat) : List Int := (memK s np).map fun k : Nat => (k : Int)
def spM (pl : List Sp) (s np i : Nat) : Sp := spAt pl ((memK s np).getD i 0)
set_option maxRecDepth 100000 in
set_option maxHeartbeats 3200000 in
theorem IsProof_c (Ap Al Ag : Option Addr) (np cp nl cl cg s : Nat) (wrg : Int) (pl : List Sp) (ls : List Ln) (w : World) (hok : OkBk np nl pl ls) (hp : np ≤ 40) (hl : nl ≤ 40) (hin : ∀ k, k < nl → ((lnAt ls k).fr = -1 ∨ (0 ≤ (lnAt ls k).fr ∧ (lnAt ls k).fr < np)) ∧ ((lnAt ls k).to = -1 ∨ (0 ≤ (lnAt ls k).to ∧ (lnAt ls k).to < np)))
    (HP : SpsAt w Ap np pl) (HL : LnsAt w Al nl ls) (HG : IntsAt w Ag (memK s np).length (memI s np)) :
    Calls Try.prog 43 #[.agg #[.slice Ap np cp, .slice Al nl cl, .int .i64 wrg], .slice Ag (memK s np).length cg] w
      fun e w' => e = .returned (.bool (decide (0 < (memK s np).length) && prvB np nl pl ls s)) ∧ Below w.heap.size w w' := by
  have HPI := Lib.hid HP
  have HLI := Lib.hid HL
  have HGI := Lib.hid HG
  have HK := Lib.hid hok
  have HIN := Lib.hid hin
  have hp5 := hok.hp
  have hl8 := hok.hl
  obtain ⟨g, hg⟩ : ∃ g, (memK s np).length = g := ⟨_, rfl⟩
  have hgn : g ≤ np := by rw [← hg]; exact memK_len s np
  have HGL := Lib.hid hg
  have HBL := Lib.hid (fun k => sumF_bd (f := fun i => (spM pl s np i).lo) (M := 999) (fun i => by have := hok.sp ((memK s np).getD i 0); simp only [spM]; omega) k)
  have HBH := Lib.hid (fun k => sumF_bd (f := fun i => (spM pl s np i).hi) (M := 999) (fun i => by have := hok.sp ((memK s np).getD i 0); simp only [spM]; omega) k)
  have BA := Lib.hid (fun k => sumF_bd (f := fun i => prA s (lnAt ls i)) (M := 1998) (fun k => (prA_bd hok s k).1) k)
  have BB := Lib.hid (fun k => sumF_bd (f := fun i => prB s (lnAt ls i)) (M := 1998) (fun k => (prA_bd hok s k).2) k)
  rw [hg] at HGI ⊢
  clear HP HL HG hok hin hg
  go_enter Try.func43, Try.ntmps43
  go_wp2
  go_name_world W hW
  obtain ⟨hB, hz⟩ := al1 hW
  obtain ⟨l_0, q_0, f_0⟩ := al1_0 hW
  have HZ := Lib.hid hz
  have zs := hB.size
  clear hW hz
  go_loopw [5, 6, 9] (fun a b i (wr : World) => ∃ k : Nat, k ≤ g ∧ i = .int .i64 k ∧ a = .int .i64 (sumF (fun i => (spM pl s np i).lo) k) ∧ b = .int .i64 (sumF (fun i => (spM pl s np i).hi) k) ∧ Below W.heap.size W wr) (fun _ _ i _ => g - (intOf i).toNat)
  case atStart => exact ⟨0, by omega, rfl, rfl, rfl, Below.refl _ _⟩
  case round =>
    obtain ⟨k, hk, rfl, rfl, rfl, hb⟩ := hrel
    obtain ⟨a, ha⟩ : ∃ a, sumF (fun i => (spM pl s np i).lo) k = a := ⟨_, rfl⟩
    obtain ⟨b, hbb⟩ : ∃ b, sumF (fun i => (spM pl s np i).hi) k = b := ⟨_, rfl⟩
    have ha1 := HBL.out k
    have hb1 := HBH.out k
    rw [ha] at ha1 ⊢
    rw [hbb] at hb1 ⊢
    have HAS := Lib.hid (show sumF (fun i => (spM pl s np i).lo) (k + 1) = a + (spM pl s np k).lo by rw [← ha]; rfl)
    have HBS := Lib.hid (show sumF (fun i => (spM pl s np i).hi) (k + 1) = b + (spM pl s np k).hi by rw [← hbb]; rfl)
    replace ha := Lib.hid ha
    replace hbb := Lib.hid hbb
    obtain ⟨hc, hf⟩ := bcell hb
    have zb := hb.size
    have m0 := Nat.lt_of_lt_of_le l_0 zb
    have hbw : Below w.heap.size w wr := by (repeat first | with_reducible assumption | with_reducible exact Below.refl _ _ | (with_reducible refine Below.alloc ?_ ?side _; case side => (first | omega | (with_reducible exact Below.size (by assumption)) | (simp; done) | (simp; omega))) | (with_reducible refine Below.setCell ?_ ?side _; case side => (first | omega | (with_reducible exact Below.size (by assumption)) | (simp; done) | (simp; omega))) | with_reducible refine Below.drew ?_ | with_reducible refine below_drewN ?_ _ | (with_reducible refine below_step (by assumption) ?side ?_; case side => (first | omega | (with_reducible exact Below.size (by assumption)) | (simp; done) | (simp; omega))))
    by_cases hlt : k < g
    · have hB' : decide ((k : Int) < g) = true := by simp; omega
      have hlen : k < (memK s np).length := by rw [HGL.out]; exact hlt
      obtain ⟨q, hq⟩ : ∃ q, (memK s np)[k] = q := ⟨_, rfl⟩
      have hq1 := (memK_get hlen).1
      rw [hq] at hq1
      have hqg : (memK s np).getD k 0 = q := by rw [List.getD_eq_getElem?_getD, List.getElem?_eq_getElem hlen, hq]; rfl
      have hqi : iAt (memI s np) k = (q : Int) := by
        unfold iAt memI; rw [List.getD_eq_getElem?_getD, List.getElem?_map, List.getElem?_eq_getElem hlen, hq]; rfl
      obtain ⟨bg, og, hAg, hbg, y0⟩ := (HGI.out.later hbw).get hlt
      obtain ⟨bp, op, hAp, hbp, x0, x1⟩ := (HPI.out.later hbw).get hq1
      have ysp := HK.out.sp q
      have esp : spM pl s np k = spAt pl q := by simp only [spM, hqg]
      have ESP := Lib.hid esp
      rw [hqi] at y0
      have hIP : ∀ W, Calls Try.prog 27 #[.agg #[.slice Ap np cp, .slice Al nl cl, .int .i64 wrg], .int .i64 (q : Int)] W fun e W' => e = .returned (.bool true) ∧ Below W.heap.size W W' := fun W => by
        have := IsPlace_c Ap Al np cp nl cl wrg (q : Int) W hp
        rwa [show isNo (q : Int) np = true by simp [isNo, wi]; omega] at this
      replace hIP := Lib.hid hIP
      have hprev : Hid (0 < k → ∃ q' : Nat, wr.cell? ⟨bg, og + (k - 1), none⟩ = some (.int .i64 (q' : Int)) ∧ q' < q) := fun h0 => by
        obtain ⟨bg', og', e', _, y'⟩ := (HGI.out.later hbw).get (show k - 1 < g by omega)
        rw [hAg] at e'
        cases e'
        have hlen' : k - 1 < (memK s np).length := by omega
        have h2 := memK_lt (s := s) (n := np) (i := k - 1) (j := k) (by omega) hlen
        refine ⟨(memK s np)[k - 1], ?_, by rw [hq] at h2; exact h2⟩
        rw [y']
        unfold iAt memI
        rw [List.getD_eq_getElem?_getD, List.getElem?_map, List.getElem?_eq_getElem hlen']; rfl
      subst hAg hAp
      have s1 : IntKind.i64.wrap (a + (spAt pl q).lo) = a + (spAt pl q).lo := IntWalk.i64_in _ (by omega)
      have s2 : IntKind.i64.wrap (b + (spAt pl q).hi) = b + (spAt pl q).hi := IntWalk.i64_in _ (by omega)
      have S12 := Lib.hid (And.intro s1 s2)
      clear s1 s2 hq hqg hqi esp
      by_cases h0 : 0 < k
      · obtain ⟨q', y1, hqq⟩ := hprev.out h0
        have hk1 : IntKind.i64.wrap ((k : Int) - 1) = ((k - 1 : Nat) : Int) := by rw [IntWalk.i64_in _ (by omega)]; omega
        have hg0 : decide ((0 : Int) < k) = true := by simp; omega
        have hqd : decide (q ≤ q') = false := by simp; omega
        have hk1b : ((k - 1 : Nat) : Int) < (g : Int) := by omega
        go_wp2_with fail
        have hcq := fun p : Regrown => (bcell (below_regrown wr p.d p.os)).1
        refine wp_region_quiet_below (by kernel_rfl) (by kernel_rfl) ?_
        repeat (go_big_quiet_step (((go_at_call 27; exact Calls.regrown_of (hIP.out _)))))
        refine wpQuiet_nil ?_
        intro wq hq
        obtain ⟨pq, hq⟩ := hq
        have hbq : Below wr.heap.size wr wq := by rw [hq]; exact below_regrown _ _ _
        clear hq hcq pq
        obtain ⟨hcq, hfq⟩ := bcell hbq
        have zq := hbq.size
        go_wp2_with fail
        obtain ⟨s1, s2⟩ := S12.out
        go_quiet (fail)
        go_wp2_with fail
        refine ⟨⟨k + 1, by omega, by simp, ?_, ?_, by (repeat first | with_reducible assumption | with_reducible exact Below.refl _ _ | (with_reducible refine Below.alloc ?_ ?side _; case side => (first | omega | (with_reducible exact Below.size (by assumption)) | (simp; done) | (simp; omega))) | (with_reducible refine Below.setCell ?_ ?side _; case side => (first | omega | (with_reducible exact Below.size (by assumption)) | (simp; done) | (simp; omega))) | with_reducible refine Below.drew ?_ | with_reducible refine below_drewN ?_ _ | (with_reducible refine below_step (by assumption) ?side ?_; case side => (first | omega | (with_reducible exact Below.size (by assumption)) | (simp; done) | (simp; omega))))⟩, by simp [intOf]; omega⟩
        · rw [HAS.out, ESP.out]
        · rw [HBS.out, ESP.out]
      · have hg0 : decide ((0 : Int) < k) = false := by simp; omega
        go_wp2_with fail
        have hcq := fun p : Regrown => (bcell (below_regrown wr p.d p.os)).1
        refine wp_region_quiet_below (by kernel_rfl) (by kernel_rfl) ?_
        repeat (go_big_quiet_step (((go_at_call 27; exact Calls.regrown_of (hIP.out _)))))
        refine wpQuiet_nil ?_
        intro wq hq
        obtain ⟨pq, hq⟩ := hq
        have hbq : Below wr.heap.size wr wq := by rw [hq]; exact below_regrown _ _ _
        clear hq hcq pq
        obtain ⟨hcq, hfq⟩ := bcell hbq
        have zq := hbq.size
        go_wp2_with fail
        obtain ⟨s1, s2⟩ := S12.out
        go_quiet (fail)
        go_wp2_with fail
        refine ⟨⟨k + 1, by omega, by simp, ?_, ?_, by (repeat first | with_reducible assumption | with_reducible exact Below.refl _ _ | (with_reducible refine Below.alloc ?_ ?side _; case side => (first | omega | (with_reducible exact Below.size (by assumption)) | (simp; done) | (simp; omega))) | (with_reducible refine Below.setCell ?_ ?side _; case side => (first | omega | (with_reducible exact Below.size (by assumption)) | (simp; done) | (simp; omega))) | with_reducible refine Below.drew ?_ | with_reducible refine below_drewN ?_ _ | (with_reducible refine below_step (by assumption) ?side ?_; case side => (first | omega | (with_reducible exact Below.size (by assumption)) | (simp; done) | (simp; omega))))⟩, by simp [intOf]; omega⟩
        · rw [HAS.out, ESP.out]
        · rw [HBS.out, ESP.out]
    · obtain rfl : g = k := by omega
      have hB' : decide (((g : Nat) : Int) < g) = false := by simp
      have d0 := fun i => (hc w.heap.size i l_0).trans (q_0 i)
      clear hc hf q_0 f_0 HAS HBS
      go_wp2_with fail
      obtain ⟨wo, rfl⟩ : ∃ wo : World, wo = wr := ⟨_, rfl⟩
      go_loopw [7, 8, 10] (fun c d i (ws : World) => ∃ k : Nat, k ≤ nl ∧ i = .int .i64 k ∧ c = .int .i64 (sumF (fun i => prA s (lnAt ls i)) k) ∧ d = .int .i64 (sumF (fun i => prB s (lnAt ls i)) k) ∧ Below wo.heap.size wo ws) (fun _ _ i _ => nl - (intOf i).toNat)
      case atStart => exact ⟨0, by omega, rfl, rfl, rfl, Below.refl _ _⟩
      case round =>
        obtain ⟨j, hj, rfl, rfl, rfl, hbo⟩ := hrel
        obtain ⟨c, hcc⟩ : ∃ c, sumF (fun i => prA s (lnAt ls i)) j = c := ⟨_, rfl⟩
        obtain ⟨d, hdd⟩ : ∃ d, sumF (fun i => prB s (lnAt ls i)) j = d := ⟨_, rfl⟩
        have hc1 := BA.out j
        have hd1 := BB.out j
        rw [hcc] at hc1 ⊢
        rw [hdd] at hd1 ⊢
        have HCS := Lib.hid (show sumF (fun i => prA s (lnAt ls i)) (j + 1) = c + prA s (lnAt ls j) by rw [← hcc]; rfl)
        have HDS := Lib.hid (show sumF (fun i => prB s (lnAt ls i)) (j + 1) = d + prB s (lnAt ls j) by rw [← hdd]; rfl)
        obtain ⟨hc, hf⟩ := bcell hbo
        have zo := hbo.size
        have n0 : w.heap.size < wr.heap.size := by omega
        have e0 := fun i => (hc w.heap.size i m0).trans (d0 i)
        have hbw' : Below w.heap.size w wr := by (repeat first | with_reducible assumption | with_reducible exact Below.refl _ _ | (with_reducible refine Below.alloc ?_ ?side _; case side => (first | omega | (with_reducible exact Below.size (by assumption)) | (simp; done) | (simp; omega))) | (with_reducible refine Below.setCell ?_ ?side _; case side => (first | omega | (with_reducible exact Below.size (by assumption)) | (simp; done) | (simp; omega))) | with_reducible refine Below.drew ?_ | with_reducible refine below_drewN ?_ _ | (with_reducible refine below_step (by assumption) ?side ?_; case side => (first | omega | (with_reducible exact Below.size (by assumption)) | (simp; done) | (simp; omega))))
        clear hc hf d0
        by_cases hjl : j < nl
        · have hjB : decide ((j : Int) < nl) = true := by simp; omega
          obtain ⟨bl, ol, rfl, hbl, x0, x1, x2, x3, x4, x5⟩ := (HLI.out.later hbw').get hjl
          obtain ⟨y1, y2, y3, y4, y5, y6, y7, y8, y9⟩ := HK.out.ln j
          obtain ⟨i1, i2⟩ := HIN.out j hjl
          obtain ⟨l, hll⟩ : ∃ l, lnAt ls j = l := ⟨_, rfl⟩
          rw [hll] at x0 x1 x2 x3 x4 x5 y1 y2 y3 y4 y5 y6 y7 y8 y9 HCS HDS i1 i2
          have HT : ∀ W, Below w.heap.size w W → Calls Try.prog 44 #[.slice Ag g cg, .int .i64 l.to] W fun e W' => e = .returned (.bool (hsB s l.to)) ∧ W = W' := fun W h => by
            have := In_c Ag g cg l.to (memI s np) W (by omega) (HGI.out.later h)
            rw [← HGL.out, memI, in_mem i2] at this
            rw [← HGL.out]
            exact this
          have HF : ∀ W, Below w.heap.size w W → Calls Try.prog 44 #[.slice Ag g cg, .int .i64 l.fr] W fun e W' => e = .returned (.bool (hsB s l.fr)) ∧ W = W' := fun W h => by
            have := In_c Ag g cg l.fr (memI s np) W (by omega) (HGI.out.later h)
            rw [← HGL.out, memI, in_mem i1] at this
            rw [← HGL.out]
            exact this
          replace HT := Lib.hid HT
          replace HF := Lib.hid HF
          have eA := Lib.hid (show prA s l = bif hsB s l.to then (bif hsB s l.fr then -l.s.hi else l.w.lo - l.s.hi) else (bif hsB s l.fr then -l.w.hi else 0) from rfl)
          have eB := Lib.hid (show prB s l = bif hsB s l.to then (bif hsB s l.fr then -l.s.lo else l.w.hi - l.s.lo) else (bif hsB s l.fr then -l.w.lo else 0) from rfl)
          clear hll i1 i2
          go_wp2_with fail
          go_name_world W5 hW5
          have hb5 : Below wr.heap.size wr W5 := by rw [← hW5]; (repeat first | with_reducible assumption | with_reducible exact Below.refl _ _ | (with_reducible refine Below.alloc ?_ ?side _; case side => (first | omega | (with_reducible exact Below.size (by assumption)) | (simp; done) | (simp; omega))) | (with_reducible refine Below.setCell ?_ ?side _; case side => (first | omega | (with_reducible exact Below.size (by assumption)) | (simp; done) | (simp; omega))) | with_reducible refine Below.drew ?_ | with_reducible refine below_drewN ?_ _ | (with_reducible refine below_step (by assumption) ?side ?_; case side => (first | omega | (with_reducible exact Below.size (by assumption)) | (simp; done) | (simp; omega))))
          have u0 : ∀ j, W5.cell? ⟨wr.heap.size, j, none⟩ = #[Value.int .i64 l.fr, .int .i64 l.to, .int .i64 l.w.lo, .int .i64 l.w.hi, .int .i64 l.s.lo, .int .i64 l.s.hi][j]? := fun j => by rw [← hW5]; exact World.cell?_alloc_new _ _ _ j
          have z5 : wr.heap.size < W5.heap.size := by rw [← hW5]; simp
          have hbw5 : Below w.heap.size w W5 := hbw'.trans (hb5.mono hbw'.size)
          have hbo5 : Below wo.heap.size wo W5 := hbo.trans (hb5.mono hbo.size)
          clear hW5 e0 x0 x1 x2 x3 x4 x5 hbw' hbo
          cases e1 : hsB s l.to <;> cases e2 : hsB s l.fr
          all_goals
            rw [e1, e2] at eA eB
            rw [e1] at HT
            rw [e2] at HF
            have EA := eA.out
            have EB := eB.out
            simp only [cond_true, cond_false] at EA EB
            replace EA := Lib.hid EA
            replace EB := Lib.hid EB
            go_quiet ((go_at_call 44; first | with_reducible exact quiet_left (HT.out _ (below_drewN hbw5 _)) | with_reducible exact quiet_left (HF.out _ (below_drewN hbw5 _)) | with_reducible exact quiet_left (HT.out _ hbw5) | with_reducible exact quiet_left (HF.out _ hbw5)))
            go_wp2_with fail
            have s1 : IntKind.i64.wrap (c - l.s.hi) = c - l.s.hi := IntWalk.i64_in _ (by omega)
            have s2 : IntKind.i64.wrap (d - l.s.lo) = d - l.s.lo := IntWalk.i64_in _ (by omega)
            have s3 : IntKind.i64.wrap (c + l.w.lo) = c + l.w.lo := IntWalk.i64_in _ (by omega)
            have s4 : IntKind.i64.wrap (c + l.w.lo - l.s.hi) = c + l.w.lo - l.s.hi := IntWalk.i64_in _ (by omega)
            have s5 : IntKind.i64.wrap (d + l.w.hi) = d + l.w.hi := IntWalk.i64_in _ (by omega)
            have s6 : IntKind.i64.wrap (d + l.w.hi - l.s.lo) = d + l.w.hi - l.s.lo := IntWalk.i64_in _ (by omega)
            have s7 : IntKind.i64.wrap (c - l.w.hi) = c - l.w.hi := IntWalk.i64_in _ (by omega)
            have s8 : IntKind.i64.wrap (d - l.w.lo) = d - l.w.lo := IntWalk.i64_in _ (by omega)
            try (go_quiet (fail))
            try (go_wp2_with fail)
            refine ⟨⟨j + 1, by omega, by simp, ?_, ?_, by (repeat first | with_reducible assumption | with_reducible exact Below.refl _ _ | (with_reducible refine Below.alloc ?_ ?side _; case side => (first | omega | (with_reducible exact Below.size (by assumption)) | (simp; done) | (simp; omega))) | (with_reducible refine Below.setCell ?_ ?side _; case side => (first | omega | (with_reducible exact Below.size (by assumption)) | (simp; done) | (simp; omega))) | with_reducible refine Below.drew ?_ | with_reducible refine below_drewN ?_ _ | (with_reducible refine below_step (by assumption) ?side ?_; case side => (first | omega | (with_reducible exact Below.size (by assumption)) | (simp; done) | (simp; omega))))⟩, by simp [intOf]; omega⟩
            · rw [HCS.out, EA.out]; first | rfl | (congr 1; omega)
            · rw [HDS.out, EB.out]; first | rfl | (congr 1; omega)
        · obtain rfl : nl = j := by omega
          have hjB : decide (((nl : Nat) : Int) < nl) = false := by simp
          have f1 := memK_sum s (fun j => (spAt pl j).hi) np
          have f2 := memK_sum s (fun j => (spAt pl j).lo) np
          have f3 : sumF (prC s pl) np = -sumF (fun j => bif s.testBit j then (spAt pl j).hi else 0) np := by
            rw [← sumF_neg']
            refine sumF_congr fun j hj => ?_
            simp only [prC, hsB, Int.natCast_nonneg, decide_true, Bool.true_and, Int.toNat_natCast]
            cases s.testBit j <;> rfl
          have f4 : sumF (prD s pl) np = -sumF (fun j => bif s.testBit j then (spAt pl j).lo else 0) np := by
            rw [← sumF_neg']
            refine sumF_congr fun j hj => ?_
            simp only [prD, hsB, Int.natCast_nonneg, decide_true, Bool.true_and, Int.toNat_natCast]
            cases s.testBit j <;> rfl
          have f5 := ha.out
          have f6 := hbb.out
          have RT : Hid ((decide (0 < (memK s np).length) && prvB np nl pl ls s) = (decide (0 < g) && (decide (b < c) || decide (d < a)))) := by
            show _ = _
            rw [HGL.out, prvB]
            have g1 : leastV np nl pl ls s = c - b := by
              simp only [leastV, f3, ← f1, hcc, HGL.out]
              simp only [spM] at f6
              omega
            have g2 : mostV np nl pl ls s = d - a := by
              simp only [mostV, f4, ← f2, hdd, HGL.out]
              simp only [spM] at f5
              omega
            rw [g1, g2]
            congr 1
            congr 1
            · exact decide_eq_decide.2 (by omega)
            · exact decide_eq_decide.2 (by omega)
          clear f1 f2 f3 f4 f5 f6 hcc hdd
          rw [HGL.out] at RT
          have hbe : Below w.heap.size w wr := by (repeat first | with_reducible assumption | with_reducible exact Below.refl _ _ | (with_reducible refine Below.alloc ?_ ?side _; case side => (first | omega | (with_reducible exact Below.size (by assumption)) | (simp; done) | (simp; omega))) | (with_reducible refine Below.setCell ?_ ?side _; case side => (first | omega | (with_reducible exact Below.size (by assumption)) | (simp; done) | (simp; omega))) | with_reducible refine Below.drew ?_ | with_reducible refine below_drewN ?_ _ | (with_reducible refine below_step (by assumption) ?side ?_; case side => (first | omega | (with_reducible exact Below.size (by assumption)) | (simp; done) | (simp; omega))))
          rcases Nat.eq_zero_or_pos g with rfl | hg0
          · go_wp2_with fail
            go_ret
            exact ⟨by rw [RT.out]; rfl, hbe⟩
          · have hgB : decide ((0 : Int) < (g : Int)) = true := by simp; omega
            have hgC : decide (0 < g) = true := by simp; omega
            cases e1 : decide (b < c) <;> cases e2 : decide (d < a)
            all_goals
              rw [hgC, e1, e2] at RT
              go_wp2_with fail
              go_ret
              exact ⟨by rw [hgC, RT.out]; rfl, hbe⟩

section
variable {np nl : Nat} {pl : List Sp} {ls : List Ln} {wrg : Int}
theorem hs_np {s : Nat} (h : s < 2 ^ np) : s.testBit np = false := Nat.testBit_lt_two_pow h
theorem gap_most (c : Ctx np nl pl ls) {s : Nat} (hs : s < 2 ^ np) : gap (SS np s) (F8 np nl pl ls 0) = mostV np nl pl ls s := by
  have hp := c.ok.hp
  have h55 : (5 : Int).toNat = 5 := rfl
  have h66 : (6 : Int).toNat = 6 := rfl
  have h6 : SS np s 6 = false := by rw [SS_6]; simp [hsB, hs_np hs]
  rw [gap_parts, sumF_two, mostV]
  have e1 : sumF (fun i => gp (SS np s) (ppAt (F8 np nl pl ls 0) (2 * i)) + gp (SS np s) (ppAt (F8 np nl pl ls 0) (2 * i + 1))) nl = sumF (fun i => prB s (lnAt ls i)) nl :=
    sumF_congr fun i hi => by
      rw [F8_at (by omega), F8_at (by omega), pp_w hi, pp_s hi]
      simp only [gp, wPp, sPp, h66, SS_node hp (c.inb.fr i hi), SS_node hp (c.inb.to i hi), h6, Nat.zero_testBit, cond_false, prB]
      cases hsB s (lnAt ls i).to <;> cases hsB s (lnAt ls i).fr <;> simp <;> omega
  have e2 : sumF (fun j => gp (SS np s) (ppAt (F8 np nl pl ls 0) (2 * nl + j))) np = sumF (prD s pl) np :=
    sumF_congr fun j hj => by
      rw [F8_at (by omega), pp_p hj]
      simp only [gp, pPp, h55, SS_5 hp, Int.toNat_natCast, SS_pl hp hj, prD]
      cases hsB s (j : Int) <;> simp
  have e3 : gp (SS np s) (ppAt (F8 np nl pl ls 0) (2 * nl + np)) = 0 := by
    rw [F8_h]
    simp [gp, h55, h66, h6, SS_5 hp]
  simp only [sumF]
  rw [e1, e2, e3]
  omega
theorem gap_least (c : Ctx np nl pl ls) {s : Nat} (hs : s < 2 ^ np) : gap (nS (SS np s)) (F8 np nl pl ls 0) = -leastV np nl pl ls s := by
  have hp := c.ok.hp
  have h55 : (5 : Int).toNat = 5 := rfl
  have h66 : (6 : Int).toNat = 6 := rfl
  have h6 : SS np s 6 = false := by rw [SS_6]; simp [hsB, hs_np hs]
  rw [gap_parts, sumF_two, leastV]
  have e1 : sumF (fun i => gp (nS (SS np s)) (ppAt (F8 np nl pl ls 0) (2 * i)) + gp (nS (SS np s)) (ppAt (F8 np nl pl ls 0) (2 * i + 1))) nl = sumF (fun i => -prA s (lnAt ls i)) nl :=
    sumF_congr fun i hi => by
      rw [F8_at (by omega), F8_at (by omega), pp_w hi, pp_s hi]
      simp only [gp_nS, wPp, sPp, h66, SS_node hp (c.inb.fr i hi), SS_node hp (c.inb.to i hi), h6, Nat.zero_testBit, cond_false, prA]
      cases hsB s (lnAt ls i).to <;> cases hsB s (lnAt ls i).fr <;> simp <;> omega
  have e2 : sumF (fun j => gp (nS (SS np s)) (ppAt (F8 np nl pl ls 0) (2 * nl + j))) np = sumF (fun j => -prC s pl j) np :=
    sumF_congr fun j hj => by
      rw [F8_at (by omega), pp_p hj]
      simp only [gp_nS, pPp, h55, SS_5 hp, Int.toNat_natCast, SS_pl hp hj, prC]
      cases hsB s (j : Int) <;> simp
  have e3 : gp (nS (SS np s)) (ppAt (F8 np nl pl ls 0) (2 * nl + np)) = 0 := by
    rw [F8_h, gp_nS]
    simp [h55, h66, h6, SS_5 hp]
  simp only [sumF]
  rw [e1, e2, e3, sumF_neg, sumF_neg]
  omega
/-- without the heap a set that lacks the outside has no more room -/
theorem gap_no6 (c : Ctx np nl pl ls) {S : Nat → Bool} (h5 : S 5 = false) : gap (fun v => v != 6 && S v) (F8 np nl pl ls 0) ≤ gap S (F8 np nl pl ls 0) := by
  have hp := c.ok.hp
  have h55 : (5 : Int).toNat = 5 := rfl
  have h66 : (6 : Int).toNat = 6 := rfl
  rw [gap_sum, gap_sum]
  refine sumF_le fun k hk => ?_
  rw [F8_len] at hk
  by_cases h1 : k < 2 * nl
  · rw [F8_at (by omega)]
    obtain ⟨i, hi⟩ : ∃ i, k = 2 * i ∨ k = 2 * i + 1 := ⟨k / 2, by omega⟩
    have y := c.ok.ln i
    have n1 := nodeZ_6 (lnAt ls i).fr y.1 y.2.1
    have n2 := nodeZ_6 (lnAt ls i).to y.2.2.1 y.2.2.2.1
    rcases hi with rfl | rfl
    · rw [pp_w (by omega)]
      simp only [gp, wPp]
      have e1 : ((nodeZ (lnAt ls i).fr).toNat != 6) = true := by simpa using n1
      have e2 : ((nodeZ (lnAt ls i).to).toNat != 6) = true := by simpa using n2
      simp [e1, e2]
    · rw [pp_s (by omega)]
      have e2 : ((nodeZ (lnAt ls i).to).toNat != 6) = true := by simpa using n2
      simp only [gp, sPp, h66, e2]
      cases S 6 <;> cases S (nodeZ (lnAt ls i).to).toNat <;> simp <;> omega
  · obtain ⟨j, rfl⟩ : ∃ j, k = 2 * nl + j := ⟨k - 2 * nl, by omega⟩
    by_cases h2 : j = np
    · subst h2
      rw [F8_h]
      simp [gp, h55, h66, h5]
    · rw [F8_at (by omega), pp_p (by omega)]
      have e2 : (((j : Int)).toNat != 6) = true := by simp; omega
      simp only [gp, pPp, h55, e2, h5]
      simp
theorem gap_w6 (c : Ctx np nl pl ls) {S : Nat → Bool} (h5 : S 5 = true) : gap (w6 S) (F8 np nl pl ls 0) ≤ gap S (F8 np nl pl ls 0) := by
  have h55 : (5 : Int).toNat = 5 := rfl
  have h66 : (6 : Int).toNat = 6 := rfl
  have hl := c.ok.hl
  cases h6 : S 6
  · rw [gap_F8, gap_F8]
    have := Ra_w6 (ws := (0 : Nat).testBit) c.ok S
    have e1 : gp (w6 S) ⟨6, 5, 0, 7992⟩ = 0 := by simp [gp, h55, h66, w6, h5]
    have e2 : gp S ⟨6, 5, 0, 7992⟩ = 7992 := by simp [gp, h55, h66, h6, h5]
    rw [e1, e2]
    omega
  · have : w6 S = S := by
      funext v
      unfold w6
      by_cases e : v = 6
      · subst e; simp [h6]
      · simp [e]
    rw [this]
    exact Int.le_refl _
theorem SS_of {S : Nat → Bool} (hp : np ≤ 5) (h5 : S 5 = false) (h6 : S 6 = false) : ∀ v, (v < np ∨ v = 5 ∨ v = 6) → S v = SS np (ofB np S) v := fun v hv => by
  unfold SS
  rcases hv with hv | rfl | rfl
  · rw [if_neg (by omega), ofB_bit]; simp [hv]
  · rw [if_neg (by omega), h5]; simp; omega
  · rw [if_pos rfl, ofB_bit, h6]; simp
theorem prove_can (c : Ctx np nl pl ls) : Can (flowL np nl pl ls (0 : Nat).testBit) ↔ ∀ s, s < 2 ^ np → prvB np nl pl ls s = false := by
  have hp := c.ok.hp
  rw [← can_F8 c]
  constructor
  · intro h s hs
    have h1 := h (SS np s)
    have h2 := h (nS (SS np s))
    rw [gap_most c hs] at h1
    rw [gap_least c hs] at h2
    unfold prvB
    simp; omega
  · intro h S
    have hb : ∀ s, s < 2 ^ np → 0 ≤ gap (SS np s) (F8 np nl pl ls 0) ∧ 0 ≤ gap (nS (SS np s)) (F8 np nl pl ls 0) := fun s hs => by
      have := h s hs
      rw [gap_most c hs, gap_least c hs]
      unfold prvB at this
      simp at this; omega
    cases h5 : S 5
    · refine Int.le_trans ?_ (gap_no6 c h5)
      rw [agree_gap c (SS_of hp (S := fun v => v != 6 && S v) (by simp [h5]) (by simp))]
      exact (hb _ (ofB_lt _ _)).1
    · refine Int.le_trans ?_ (gap_w6 c h5)
      have hv := SS_of hp (S := nS (w6 S)) (by simp [nS, w6, h5]) (by simp [nS, w6])
      have hv' : ∀ v, (v < np ∨ v = 5 ∨ v = 6) → w6 S v = nS (SS np (ofB np (nS (w6 S)))) v := fun v h => by have := hv v h; simp only [nS] at this ⊢; rw [← this, Bool.not_not]
      rw [agree_gap c hv']
      exact (hb _ (ofB_lt _ _)).2
theorem prv_zero : prvB np nl pl ls 0 = false := by
  have h : ∀ i, hsB 0 i = false := fun i => by simp [hsB]
  have a1 : leastV np nl pl ls 0 = 0 := by
    rw [leastV, sumF_zero _ fun i _ => ?_, sumF_zero _ fun i _ => ?_]
    · rfl
    · simp [prC, h]
    · simp [prA, h]
  have a2 : mostV np nl pl ls 0 = 0 := by
    rw [mostV, sumF_zero _ fun i _ => ?_, sumF_zero _ fun i _ => ?_]
    · rfl
    · simp [prD, h]
    · simp [prB, h]
  rw [prvB, a1, a2]; rfl
theorem prfO_no (c : Ctx np nl pl ls) : prfO np nl pl ls = none ↔ Can (flowL np nl pl ls (0 : Nat).testBit) := by
  rw [prove_can c]
  constructor
  · intro h s hs
    unfold prfO at h
    rw [List.find?_eq_none] at h
    have := h s (by simpa using hs)
    by_cases e : s = 0
    · subst e; exact prv_zero
    · have e' : (s != 0) = true := by simpa using e
      simpa [e'] using this
  · intro h
    exact prfO_none fun s hs => by simp [h s hs]
theorem cntF_zero {n s : Nat} (h : cntF n s.testBit = 0) (hs : s < 2 ^ n) : s = 0 := by
  refine Nat.eq_of_testBit_eq fun i => ?_
  rw [Nat.zero_testBit]
  by_cases hi : i < n
  · refine Bool.eq_false_iff.2 fun e => ?_
    have : i ∈ (List.range n).filter s.testBit := by rw [List.mem_filter]; exact ⟨by simpa using hi, e⟩
    rw [List.eq_nil_of_length_eq_zero h] at this
    simp at this
  · exact Nat.testBit_lt_two_pow (Nat.lt_of_lt_of_le hs (Nat.pow_le_pow_right (by omega) (by omega)))
theorem few_zero (c : Ctx np nl pl ls) : fewL np nl pl ls = some 0 ↔ Can (flowL np nl pl ls (0 : Nat).testBit) := by
  have hl := c.ok.hl
  constructor
  · intro h
    obtain ⟨-, h2⟩ := fewL_spec h
    obtain ⟨s, hs⟩ := List.exists_mem_of_ne_nil _ h2
    obtain ⟨h3, h4, h5⟩ := mem_sets hl c.ok hs
    rwa [cntF_zero h4 h3] at h5
  · intro h
    have hm : 0 ∈ netSets np nl pl ls ((0 : Nat) : Int) := mem_netSets hl (Nat.two_pow_pos nl) (by unfold cntF; simp) c.ok h
    exact fewL_some (Nat.zero_le _) (fun j hj => absurd hj (by omega)) (List.ne_nil_of_mem hm)
theorem prf_spec {s : Nat} (h : prfO np nl pl ls = some s) : s < 2 ^ np ∧ s ≠ 0 ∧ prvB np nl pl ls s = true := by
  unfold prfO at h
  have h1 := List.mem_of_find?_eq_some h
  have h2 := List.find?_some h
  simp only [Bool.and_eq_true, bne_iff_ne, ne_eq] at h2
  exact ⟨by simpa using h1, h2.1, h2.2⟩
theorem memK_pos {s : Nat} (hs : s < 2 ^ np) (h0 : s ≠ 0) : 0 < (memK s np).length := by
  refine Nat.pos_of_ne_zero fun e => h0 ?_
  exact cntF_zero e hs
end

end Go.Proofs.Ytoehifincdflhaa
