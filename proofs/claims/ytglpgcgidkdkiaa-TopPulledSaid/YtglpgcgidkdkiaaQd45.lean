/- IsGood of the specification (layer 7). -/
import Derived.Test.YtglpgcgidkdkiaaQd44
namespace Go.Proofs.Ytglpgcgidkdkiaa
open Go.RowKit
open Go.Sort (grow)
set_option linter.unusedVariables false
set_option linter.unusedSimpArgs false

theorem dbt_succ {need : Int} {ls : List Sp} {x k : Nat} : dbt need ls x (k + 1) = dbt need ls x k + (if x.testBit k = false ∧ (spAt ls k).lo < need then 1 else 0) := by
  unfold dbt
  rw [List.range_succ, List.filter_append, List.length_append]
  congr 1
  cases e : x.testBit k <;> by_cases h : (spAt ls k).lo < need <;> simp [e, h]
theorem dbt_le (need : Int) (ls : List Sp) (x k : Nat) : dbt need ls x k ≤ k := by
  unfold dbt
  have := List.length_filter_le (fun i => !x.testBit i && decide ((spAt ls i).lo < need)) (List.range k)
  simpa using this
theorem lef_succ {x k : Nat} : (lefN x (k + 1)).length = (lefN x k).length + (if x.testBit k = false then 1 else 0) := by
  unfold lefN
  rw [List.range_succ, List.filter_append, List.length_append]
  congr 1
  cases e : x.testBit k <;> simp [e]
theorem lef_le (x k : Nat) : (lefN x k).length ≤ k := by
  unfold lefN
  have := List.length_filter_le (fun i => !x.testBit i) (List.range k)
  simpa using this
set_option maxRecDepth 100000 in
set_option maxHeartbeats 3200000 in
theorem IsGood_c (A B : Option Addr) (n c m d x : Nat) (q : Cb) (ls : List Sp) (l : List Int) (w : World) (hn : n ≤ 40) (hm : m ≤ 40) (HL : SpsAt w A n ls) (HX : IntsAt w B m l) (hx : Bits l m n x) :
    Calls Try.prog 21 #[.agg #[.slice A n c, .int .i64 q.need, .int .i64 q.gap, .int .i64 q.doubt, .int .i64 q.joins, .int .i64 q.least], .slice B m d] w fun e w' => e = .returned (.bool (goodB q ls n x)) ∧ Below w.heap.size w w' := by
  have HLI := Lib.hid HL
  have HXI := Lib.hid HX
  have HXB := Lib.hid hx
  obtain ⟨R, hR⟩ : ∃ R, goodB q ls n x = R := ⟨_, rfl⟩
  rw [hR]
  have HR := Lib.hid hR
  clear HL HX hx hR
  go_enter Try.func21, Try.ntmps21
  go_wp2
  go_name_world W hW
  obtain ⟨hB, hz⟩ := al1 hW
  obtain ⟨l_0, q_0, f_0⟩ := al1_0 hW
  have HZ := Lib.hid hz
  have zs := hB.size
  clear hW hz
  go_loopw [5, 6, 7] (fun a b i (wr : World) => ∃ k : Nat, k ≤ n ∧ i = .int .i64 k ∧ a = .int .i64 (dbt q.need ls x k) ∧ b = .int .i64 ((lefN x k).length : Nat) ∧ Hid (∀ j, j < k → x.testBit j = true ∨ q.need ≤ (spAt ls j).hi) ∧ Below W.heap.size W wr) (fun _ _ i _ => n - (intOf i).toNat)
  case atStart => exact ⟨0, by omega, rfl, rfl, rfl, fun j hj => absurd hj (by omega), Below.refl _ _⟩
  case round =>
    obtain ⟨k, hk, rfl, rfl, rfl, H, hb⟩ := hrel
    obtain ⟨hc, hf⟩ := bcell hb
    have zb := hb.size
    have m0 := Nat.lt_of_lt_of_le l_0 zb
    have hd1 := dbt_le q.need ls x k
    have hd2 := lef_le x k
    have hbw : Below w.heap.size w wr := by (repeat first | with_reducible assumption | with_reducible exact Below.refl _ _ | refine below_drewN ?_ _ | refine Below.drew ?_ | refine Below.alloc ?_ (by first | omega | (with_reducible exact Below.size (by assumption)) | (simp; done) | (simp; omega)) _ | refine Below.setCell ?_ (by first | omega | (with_reducible exact Below.size (by assumption)) | (simp; done) | (simp; omega)) _ | refine below_step (by assumption) (by first | omega | (with_reducible exact Below.size (by assumption)) | (simp; done) | (simp; omega)) ?_)
    by_cases hkn : k < n
    · have hknB : decide ((k : Int) < n) = true := by simp; omega
      have HS1 := Lib.hid (dbt_succ (need := q.need) (ls := ls) (x := x) (k := k))
      have HS2 := Lib.hid (lef_succ (x := x) (k := k))
      obtain ⟨b, hb2⟩ : ∃ b, x.testBit k = b := ⟨_, rfl⟩
      have hhas : ∀ V, Below w.heap.size w V → Calls Try.prog 47 #[.slice B m d, .int .i64 k] V fun e W' => e = .returned (.bool b) ∧ V = W' := fun V hV => by
        rw [← hb2, ← HXB.out k hkn]; exact in7_c B m d k l V hm (HXI.out.later hV)
      replace hhas := Lib.hid hhas
      have HN := Lib.hid (fun (h : x.testBit k = true ∨ q.need ≤ (spAt ls k).hi) j (hj : j < k + 1) => by
        rcases Nat.lt_succ_iff_lt_or_eq.1 hj with h' | rfl
        · exact H.out j h'
        · exact h : _ → ∀ j, j < k + 1 → x.testBit j = true ∨ q.need ≤ (spAt ls j).hi)
      rw [hb2] at HS1 HS2 HN
      obtain ⟨D, hD⟩ : ∃ D, dbt q.need ls x k = D := ⟨_, rfl⟩
      obtain ⟨F, hF⟩ : ∃ F, (lefN x k).length = F := ⟨_, rfl⟩
      rw [hD] at HS1 hd1 ⊢
      rw [hF] at HS2 hd2 ⊢
      cases b
      · have HW := Lib.hid (fun h => HR.out.symm.trans (good_weak (q := q) (ls := ls) (lef_mem.2 ⟨hkn, hb2⟩) h))
        obtain ⟨b1, o1, rfl, hb1, y0, y1⟩ := (HLI.out.later hbw).get hkn
        obtain ⟨s, hs⟩ : ∃ s, spAt ls k = s := ⟨_, rfl⟩
        rw [hs] at y0 y1 HS1 HW HN
        clear hs hb2 hD hF
        by_cases hw : s.hi < q.need
        · have hwB : decide (s.hi < q.need) = true := by simpa using hw
          go_wp2_with (go_at_call 47; refine (hhas.out _ hbw).mono ?_; rintro e w' ⟨rfl, rfl⟩)
          go_quiet (fail)
          go_wp2
          go_ret
          exact ⟨ret_bool (HW.out hw).symm, by (repeat first | with_reducible assumption | with_reducible exact Below.refl _ _ | (with_reducible refine Below.alloc ?_ ?side _; case side => (first | omega | (with_reducible exact Below.size (by assumption)) | (simp; done) | (simp; omega))) | (with_reducible refine Below.setCell ?_ ?side _; case side => (first | omega | (with_reducible exact Below.size (by assumption)) | (simp; done) | (simp; omega))) | with_reducible refine Below.drew ?_ | with_reducible refine below_drewN ?_ _ | (with_reducible refine below_step (by assumption) ?side ?_; case side => (first | omega | (with_reducible exact Below.size (by assumption)) | (simp; done) | (simp; omega))))⟩
        · have hwB : decide (s.hi < q.need) = false := by simpa using hw
          have HN' := Lib.hid (HN.out (.inr (by omega)))
          by_cases hdo : s.lo < q.need
          · have hdB : decide (s.lo < q.need) = true := by simpa using hdo
            go_wp2_with (go_at_call 47; refine (hhas.out _ hbw).mono ?_; rintro e w' ⟨rfl, rfl⟩)
            go_quiet (fail)
            go_wp2
            go_quiet (fail)
            go_wp2
            go_roundw
            case rel => exact ⟨k + 1, by omega, by go_num, by rw [HS1.out, if_pos (by simp; omega)]; go_num, by rw [HS2.out, if_pos (by simp)]; go_num, HN', by (repeat first | with_reducible assumption | with_reducible exact Below.refl _ _ | (with_reducible refine Below.alloc ?_ ?side _; case side => (first | omega | (with_reducible exact Below.size (by assumption)) | (simp; done) | (simp; omega))) | (with_reducible refine Below.setCell ?_ ?side _; case side => (first | omega | (with_reducible exact Below.size (by assumption)) | (simp; done) | (simp; omega))) | with_reducible refine Below.drew ?_ | with_reducible refine below_drewN ?_ _ | (with_reducible refine below_step (by assumption) ?side ?_; case side => (first | omega | (with_reducible exact Below.size (by assumption)) | (simp; done) | (simp; omega))))⟩
            case measure => simp [intOf]; omega
          · have hdB : decide (s.lo < q.need) = false := by simpa using hdo
            go_wp2_with (go_at_call 47; refine (hhas.out _ hbw).mono ?_; rintro e w' ⟨rfl, rfl⟩)
            go_quiet (fail)
            go_wp2
            go_quiet (fail)
            go_wp2
            go_roundw
            case rel => exact ⟨k + 1, by omega, by go_num, by rw [HS1.out, if_neg (by simp; omega)]; rfl, by rw [HS2.out, if_pos (by simp)]; go_num, HN', by (repeat first | with_reducible assumption | with_reducible exact Below.refl _ _ | (with_reducible refine Below.alloc ?_ ?side _; case side => (first | omega | (with_reducible exact Below.size (by assumption)) | (simp; done) | (simp; omega))) | (with_reducible refine Below.setCell ?_ ?side _; case side => (first | omega | (with_reducible exact Below.size (by assumption)) | (simp; done) | (simp; omega))) | with_reducible refine Below.drew ?_ | with_reducible refine below_drewN ?_ _ | (with_reducible refine below_step (by assumption) ?side ?_; case side => (first | omega | (with_reducible exact Below.size (by assumption)) | (simp; done) | (simp; omega))))⟩
            case measure => simp [intOf]; omega
      · have HN' := Lib.hid (HN.out (.inl rfl))
        clear hb2 hD hF
        go_wp2_with (go_at_call 47; refine (hhas.out _ hbw).mono ?_; rintro e w' ⟨rfl, rfl⟩)
        go_roundw
        case rel => exact ⟨k + 1, by omega, by go_num, by rw [HS1.out, if_neg (by simp)]; rfl, by rw [HS2.out, if_neg (by simp)]; rfl, HN', by (repeat first | with_reducible assumption | with_reducible exact Below.refl _ _ | (with_reducible refine Below.alloc ?_ ?side _; case side => (first | omega | (with_reducible exact Below.size (by assumption)) | (simp; done) | (simp; omega))) | (with_reducible refine Below.setCell ?_ ?side _; case side => (first | omega | (with_reducible exact Below.size (by assumption)) | (simp; done) | (simp; omega))) | with_reducible refine Below.drew ?_ | with_reducible refine below_drewN ?_ _ | (with_reducible refine below_step (by assumption) ?side ?_; case side => (first | omega | (with_reducible exact Below.size (by assumption)) | (simp; done) | (simp; omega))))⟩
        case measure => simp [intOf]; omega
    · obtain rfl : k = n := by omega
      have hknB : decide (((k : Nat) : Int) < k) = false := by simp
      have hge := good_eq (q := q) (ls := ls) (n := k) (x := x) (fun i hi => by
        obtain ⟨h1, h2⟩ := lef_mem.1 hi
        rcases H.out i h1 with h3 | h3
        · rw [h2] at h3; cases h3
        · exact h3)
      obtain ⟨D, hD⟩ : ∃ D, dbt q.need ls x k = D := ⟨_, rfl⟩
      obtain ⟨F, hF⟩ : ∃ F, (lefN x k).length = F := ⟨_, rfl⟩
      obtain ⟨S, hS⟩ : ∃ S, shk x k = S := ⟨_, rfl⟩
      rw [HR.out] at hge
      rw [hD] at hge hd1 ⊢
      rw [hF] at hge hd2 ⊢
      rw [hS] at hge
      have HGE := Lib.hid hge
      have hpc : ∀ V, Below w.heap.size w V → Calls Try.prog 48 #[.agg #[.slice A k c, .int .i64 q.need, .int .i64 q.gap, .int .i64 q.doubt, .int .i64 q.joins, .int .i64 q.least], .slice B m d] V fun e w' => ∃ A c, e = .returned (.slice A (pcs x k).length c) ∧ IntsAt w' A (pcs x k).length (pcs x k) ∧ Below V.heap.size V w' := fun V hV =>
        refPieces_c A B k c m d x q l V hn hm (HXI.out.later hV) HXB.out
      have hsk : ∀ V, Below w.heap.size w V → Calls Try.prog 49 #[.agg #[.slice A k c, .int .i64 q.need, .int .i64 q.gap, .int .i64 q.doubt, .int .i64 q.joins, .int .i64 q.least], .slice B m d] V fun e w' => e = .returned (.int .i64 S) ∧ Below V.heap.size V w' := fun V hV => by
        rw [← hS]; exact ShacklesOf_c A B k c m d x q l V hn hm (HXI.out.later hV) HXB.out
      have hpl := pcs_len x k
      obtain ⟨Pc, hPc⟩ : ∃ P, pcs x k = P := ⟨_, rfl⟩
      rw [hPc] at HGE hpc hpl
      obtain ⟨pn, hpn⟩ : ∃ p, Pc.length = p := ⟨_, rfl⟩
      rw [hpn] at HGE hpc hpl
      replace hpc := Lib.hid hpc
      replace hsk := Lib.hid hsk
      clear H hge HR hD hF hS hPc
      go_wp2_with fail
      refine (hpc.out _ hbw).mono ?_
      rintro e w1 ⟨A1, c1, rfl, hi1, hb1⟩
      have HI := Lib.hid hi1
      have b1 : Below W.heap.size W w1 := hb.trans (hb1.mono hb.size)
      have zb1 := b1.size
      clear hb1 hi1 hc hf hb hbw
      go_wp2_with fail
      go_loopw [9] (fun i (wy : World) => ∃ j : Nat, j ≤ pn ∧ i = .int .i64 j ∧ Hid (∀ i, i < j → decide (iAt Pc i < q.gap) = false) ∧ Below w1.heap.size w1 wy) (fun i _ => pn - (intOf i).toNat)
      case atStart => exact ⟨0, by omega, rfl, fun j hj => absurd hj (by omega), Below.refl _ _⟩
      case round =>
        obtain ⟨j, hj, rfl, H, hb2⟩ := hrel
        have hb : Below W.heap.size W wr := b1.trans (hb2.mono zb1)
        obtain ⟨hc, hf⟩ := bcell hb
        have zb := hb.size
        have m0 := Nat.lt_of_lt_of_le l_0 zb
        have hbw : Below w.heap.size w wr := by (repeat first | with_reducible assumption | with_reducible exact Below.refl _ _ | refine below_drewN ?_ _ | refine Below.drew ?_ | refine Below.alloc ?_ (by first | omega | (with_reducible exact Below.size (by assumption)) | (simp; done) | (simp; omega)) _ | refine Below.setCell ?_ (by first | omega | (with_reducible exact Below.size (by assumption)) | (simp; done) | (simp; omega)) _ | refine below_step (by assumption) (by first | omega | (with_reducible exact Below.size (by assumption)) | (simp; done) | (simp; omega)) ?_)
        by_cases hjn : j < pn
        · have hjnB : decide ((j : Int) < pn) = true := by simp; omega
          obtain ⟨b0, o0, rfl, hb0, x0⟩ := (HI.out.later hb2).get hjn
          have HA := Lib.hid (fun h : decide (iAt Pc j < q.gap) = true => anyN_yes (p := fun i => decide (iAt Pc i < q.gap)) hjn h)
          have HN := Lib.hid (fun (h : decide (iAt Pc j < q.gap) = false) i (hi : i < j + 1) => by
            rcases Nat.lt_succ_iff_lt_or_eq.1 hi with h' | rfl
            · exact H.out i h'
            · exact h : _ → ∀ i, i < j + 1 → decide (iAt Pc i < q.gap) = false)
          obtain ⟨v, hv⟩ : ∃ v, iAt Pc j = v := ⟨_, rfl⟩
          rw [hv] at x0 HA HN
          clear hv
          cases e1 : decide (v < q.gap)
          · have HN' := Lib.hid (HN.out e1)
            go_wp2
            go_quiet (fail)
            go_wp2
            go_roundw
            case rel => exact ⟨j + 1, by omega, by go_num, HN', by (repeat first | with_reducible assumption | with_reducible exact Below.refl _ _ | (with_reducible refine Below.alloc ?_ ?side _; case side => (first | omega | (with_reducible exact Below.size (by assumption)) | (simp; done) | (simp; omega))) | (with_reducible refine Below.setCell ?_ ?side _; case side => (first | omega | (with_reducible exact Below.size (by assumption)) | (simp; done) | (simp; omega))) | with_reducible refine Below.drew ?_ | with_reducible refine below_drewN ?_ _ | (with_reducible refine below_step (by assumption) ?side ?_; case side => (first | omega | (with_reducible exact Below.size (by assumption)) | (simp; done) | (simp; omega))))⟩
            case measure => simp [intOf]; omega
          · have HA' := Lib.hid (HA.out e1)
            go_wp2
            go_quiet (fail)
            go_wp2
            go_ret
            exact ⟨ret_bool (by rw [HGE.out, HA'.out]; simp), by (repeat first | with_reducible assumption | with_reducible exact Below.refl _ _ | (with_reducible refine Below.alloc ?_ ?side _; case side => (first | omega | (with_reducible exact Below.size (by assumption)) | (simp; done) | (simp; omega))) | (with_reducible refine Below.setCell ?_ ?side _; case side => (first | omega | (with_reducible exact Below.size (by assumption)) | (simp; done) | (simp; omega))) | with_reducible refine Below.drew ?_ | with_reducible refine below_drewN ?_ _ | (with_reducible refine below_step (by assumption) ?side ?_; case side => (first | omega | (with_reducible exact Below.size (by assumption)) | (simp; done) | (simp; omega))))⟩
        · obtain rfl : j = pn := by omega
          have hjnB : decide (((j : Nat) : Int) < j) = false := by simp
          have HA := Lib.hid (anyN_no (p := fun i => decide (iAt Pc i < q.gap)) H.out)
          have HG2 : Hid (R = (decide ((D : Int) ≤ q.doubt) && (decide (q.least ≤ (F : Int)) && decide (S ≤ q.joins)))) := by
            show _ = _
            rw [HGE.out, HA.out]; simp
          clear HGE HA H
          cases e1 : decide ((D : Int) ≤ q.doubt)
          · rw [e1] at HG2
            go_wp2_with fail
            have hcq := fun p : Regrown => (bcell (below_regrown wr p.d p.os)).1
            refine wp_region_quiet_below (by kernel_rfl) (by kernel_rfl) ?_
            repeat (go_big_quiet_step ((fail)))
            refine wpQuiet_nil ?_
            intro wq hq
            obtain ⟨pq, hq⟩ := hq
            have hbq : Below wr.heap.size wr wq := by rw [hq]; exact below_regrown _ _ _
            clear hq hcq pq
            obtain ⟨hcq, hfq⟩ := bcell hbq
            have zq := hbq.size
            go_wp2_with fail
            go_ret
            exact ⟨ret_bool (by rw [HG2.out]; rfl), by (repeat first | with_reducible assumption | with_reducible exact Below.refl _ _ | (with_reducible refine Below.alloc ?_ ?side _; case side => (first | omega | (with_reducible exact Below.size (by assumption)) | (simp; done) | (simp; omega))) | (with_reducible refine Below.setCell ?_ ?side _; case side => (first | omega | (with_reducible exact Below.size (by assumption)) | (simp; done) | (simp; omega))) | with_reducible refine Below.drew ?_ | with_reducible refine below_drewN ?_ _ | (with_reducible refine below_step (by assumption) ?side ?_; case side => (first | omega | (with_reducible exact Below.size (by assumption)) | (simp; done) | (simp; omega))))⟩
          · cases e2 : decide (S ≤ q.joins)
            · rw [e1, e2] at HG2
              go_wp2_with fail
              have hcq := fun p : Regrown => (bcell (below_regrown wr p.d p.os)).1
              refine wp_region_quiet_below (by kernel_rfl) (by kernel_rfl) ?_
              repeat (go_big_quiet_step (((go_at_call 49; exact Calls.regrown_of (hsk.out _ (hbw.trans ((below_regrown _ _ _).mono hbw.size)))))))
              refine wpQuiet_nil ?_
              intro wq hq
              obtain ⟨pq, hq⟩ := hq
              have hbq : Below wr.heap.size wr wq := by rw [hq]; exact below_regrown _ _ _
              clear hq hcq pq
              obtain ⟨hcq, hfq⟩ := bcell hbq
              have zq := hbq.size
              go_wp2_with fail
              go_ret
              exact ⟨ret_bool (by rw [HG2.out]; simp), by (repeat first | with_reducible assumption | with_reducible exact Below.refl _ _ | (with_reducible refine Below.alloc ?_ ?side _; case side => (first | omega | (with_reducible exact Below.size (by assumption)) | (simp; done) | (simp; omega))) | (with_reducible refine Below.setCell ?_ ?side _; case side => (first | omega | (with_reducible exact Below.size (by assumption)) | (simp; done) | (simp; omega))) | with_reducible refine Below.drew ?_ | with_reducible refine below_drewN ?_ _ | (with_reducible refine below_step (by assumption) ?side ?_; case side => (first | omega | (with_reducible exact Below.size (by assumption)) | (simp; done) | (simp; omega))))⟩
            · rw [e1, e2] at HG2
              go_wp2_with fail
              have hcq := fun p : Regrown => (bcell (below_regrown wr p.d p.os)).1
              refine wp_region_quiet_below (by kernel_rfl) (by kernel_rfl) ?_
              repeat (go_big_quiet_step (((go_at_call 49; exact Calls.regrown_of (hsk.out _ (hbw.trans ((below_regrown _ _ _).mono hbw.size)))))))
              refine wpQuiet_nil ?_
              intro wq hq
              obtain ⟨pq, hq⟩ := hq
              have hbq : Below wr.heap.size wr wq := by rw [hq]; exact below_regrown _ _ _
              clear hq hcq pq
              obtain ⟨hcq, hfq⟩ := bcell hbq
              have zq := hbq.size
              go_wp2_with fail
              go_ret
              exact ⟨ret_bool (by rw [HG2.out]; simp), by (repeat first | with_reducible assumption | with_reducible exact Below.refl _ _ | (with_reducible refine Below.alloc ?_ ?side _; case side => (first | omega | (with_reducible exact Below.size (by assumption)) | (simp; done) | (simp; omega))) | (with_reducible refine Below.setCell ?_ ?side _; case side => (first | omega | (with_reducible exact Below.size (by assumption)) | (simp; done) | (simp; omega))) | with_reducible refine Below.drew ?_ | with_reducible refine below_drewN ?_ _ | (with_reducible refine below_step (by assumption) ?side ?_; case side => (first | omega | (with_reducible exact Below.size (by assumption)) | (simp; done) | (simp; omega))))⟩

end Go.Proofs.Ytglpgcgidkdkiaa
