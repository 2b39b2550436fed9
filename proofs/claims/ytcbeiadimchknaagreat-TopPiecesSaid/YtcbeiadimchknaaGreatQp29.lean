/- given, Good and Shackles of repairs (layer 7); Good and Shackles of repairs (layer 7); IsRepair and in of the specification (layer 7). -/
import Derived.Test.YtcbeiadimchknaaGreatQp28
import Derived.Test.YtcbeiadimchknaaGreatQp22
namespace Go.Proofs.YtcbeiadimchknaaGreat
open Go.RowKit
open Go.Sort (grow)
set_option linter.unusedVariables false
set_option linter.unusedSimpArgs false

/-- the k-th number of a repair is that of a link, and above the one before -/
def stO (n : Nat) (l : List Int) (k : Nat) : Bool := wi_q7 (iAt l k) 0 ((n : Int) - 1) && !(decide (0 < k) && decide (iAt l k ≤ iAt l (k - 1)))
def isR (n m : Nat) (l : List Int) : Bool := allN m (stO n l)
def ofK (l : List Int) (k : Nat) : Nat := (List.range k).foldl (fun a j => a ||| 2 ^ (iAt l j).toNat) 0
theorem ofK_succ (l : List Int) (k : Nat) : ofK l (k + 1) = ofK l k ||| 2 ^ (iAt l k).toNat := by unfold ofK; rw [List.range_succ, List.foldl_append]; rfl
theorem ofK_lt {n m : Nat} {l : List Int} {k : Nat} (hk : k ≤ m) (h : ∀ j, j < k → stO n l j = true) : ofK l k < 2 ^ n := by
  induction k with
  | zero => exact Nat.two_pow_pos n
  | succ k ih =>
    rw [ofK_succ]
    refine Nat.or_lt_two_pow (ih (by omega) fun j hj => h j (by omega)) ?_
    have := h k (by omega)
    simp only [stO, Bool.and_eq_true] at this
    have := wi_true_q7.1 this.1
    exact Nat.pow_lt_pow_right (by omega) (by omega)
/-- what given hands back: a set of links, an error -/
def gvR (n m : Nat) (ls : List Sp) (q : Cb) (l : List Int) : Nat × Int := bif ckC n ls q then (bif isR n m l then (ofK l m, 0) else (0, 1)) else (0, 70)
theorem gv_ck {n m : Nat} {ls : List Sp} {q : Cb} {l : List Int} (h : ckC n ls q = false) : gvR n m ls q l = (0, 70) := by simp [gvR, h]
theorem gv_bad {n m : Nat} {ls : List Sp} {q : Cb} {l : List Int} (h : ckC n ls q = true) (h2 : isR n m l = false) : gvR n m ls q l = (0, 1) := by simp [gvR, h, h2]
theorem gv_ok {n m : Nat} {ls : List Sp} {q : Cb} {l : List Int} (h : ckC n ls q = true) (h2 : isR n m l = true) : gvR n m ls q l = (ofK l m, 0) := by simp [gvR, h, h2]
theorem shl1 (a : Nat) (ha : a ≤ 40) : IntKind.u64.wrap ((2 : Int) ^ a) = ((2 ^ a : Nat) : Int) := by
  have e : (2 : Int) ^ a = ((2 ^ a : Nat) : Int) := by simp
  have h : 2 ^ a ≤ 2 ^ 40 := Nat.pow_le_pow_right (by omega) ha
  rw [e]
  obtain ⟨P, hP⟩ : ∃ P, 2 ^ a = P := ⟨_, rfl⟩
  rw [hP] at h ⊢
  rw [IntKind.wrap_u64]; omega
set_option maxRecDepth 100000 in
set_option maxHeartbeats 3200000 in
theorem given_c (A B : Option Addr) (n c m d : Nat) (q : Cb) (ls : List Sp) (l : List Int) (w : World) (hn : n ≤ 40) (hm : m ≤ 40) (hq : CbOk q) (HL : SpsAt w A n ls) (HX : IntsAt w B m l) :
    Calls Tryz.prog 28 #[.agg #[.slice A n c, .int .i64 q.need, .int .i64 q.gap, .int .i64 q.doubt, .int .i64 q.joins, .int .i64 q.least], .slice B m d] w
      fun e w' => e = .returned (.tuple #[.int .u64 ((gvR n m ls q l).1 : Nat), .int .i64 (gvR n m ls q l).2]) ∧ Below w.heap.size w w' := by
  have HLI := Lib.hid HL
  have HXI := Lib.hid HX
  clear HL HX
  have hcc : ∀ W, Below w.heap.size w W → Calls Tryz.prog 52 #[.agg #[.slice A n c, .int .i64 q.need, .int .i64 q.gap, .int .i64 q.doubt, .int .i64 q.joins, .int .i64 q.least]] W fun e w' => e = .returned (.int .i64 (erC (ckC n ls q))) ∧ Below W.heap.size W w' := fun W hW =>
    check_c_q7 A n c q ls W hn hq (HLI.out.later hW)
  cases hck : ckC n ls q
  · rw [gv_ck hck]
    have e0 : erC (ckC n ls q) = 70 := by rw [hck]; rfl
    rw [e0] at hcc
    replace hcc := Lib.hid hcc
    clear hck e0
    go_enter Tryz.func28, Tryz.ntmps28
    go_wp2_with (go_at_call 52; refine (hcc.out _ (by (repeat first | with_reducible assumption | with_reducible exact Below.refl _ _ | (with_reducible refine Below.alloc ?_ ?side _; case side => (first | omega | (with_reducible exact Below.size (by assumption)) | (simp; done) | (simp; omega))) | (with_reducible refine Below.setCell ?_ ?side _; case side => (first | omega | (with_reducible exact Below.size (by assumption)) | (simp; done) | (simp; omega))) | with_reducible refine Below.drew ?_ | with_reducible refine below_drewN ?_ _ | (with_reducible refine below_step (by assumption) ?side ?_; case side => (first | omega | (with_reducible exact Below.size (by assumption)) | (simp; done) | (simp; omega)))))).mono ?_; (rintro e w1 ⟨rfl, hb1⟩; obtain ⟨hc1, hf1⟩ := bcell hb1; have zs1 := hb1.size; (try simp at zs1); have n1_0 : w.heap.size < w1.heap.size := (by omega)))
    exact bodyPost_ret (v := .tuple #[.int .u64 (0 : Nat), .int .i64 70]) (by simp [results, Tryz.results28, go_sem]) rfl ⟨rfl, by (repeat first | with_reducible assumption | with_reducible exact Below.refl _ _ | (with_reducible refine Below.alloc ?_ ?side _; case side => (first | omega | (with_reducible exact Below.size (by assumption)) | (simp; done) | (simp; omega))) | (with_reducible refine Below.setCell ?_ ?side _; case side => (first | omega | (with_reducible exact Below.size (by assumption)) | (simp; done) | (simp; omega))) | with_reducible refine Below.drew ?_ | with_reducible refine below_drewN ?_ _ | (with_reducible refine below_step (by assumption) ?side ?_; case side => (first | omega | (with_reducible exact Below.size (by assumption)) | (simp; done) | (simp; omega))))⟩
  have e0 : erC (ckC n ls q) = 0 := by rw [hck]; rfl
  rw [e0] at hcc
  replace hcc := Lib.hid hcc
  have hn12 := ck_len hck
  obtain ⟨R, hR⟩ : ∃ R, gvR n m ls q l = R := ⟨_, rfl⟩
  rw [hR]
  have HR := Lib.hid (fun (k : Nat) (hk : k < m) (h : stO n l k = false) => hR.symm.trans (gv_bad (ls := ls) hck (allN_no hk h)))
  have HO := Lib.hid (fun (h : ∀ k, k < m → stO n l k = true) => hR.symm.trans (gv_ok (ls := ls) hck (allN_iff.2 h)))
  clear hck e0 hR
  go_enter Tryz.func28, Tryz.ntmps28
  go_wp2_with (go_at_call 52; refine (hcc.out _ (by (repeat first | with_reducible assumption | with_reducible exact Below.refl _ _ | (with_reducible refine Below.alloc ?_ ?side _; case side => (first | omega | (with_reducible exact Below.size (by assumption)) | (simp; done) | (simp; omega))) | (with_reducible refine Below.setCell ?_ ?side _; case side => (first | omega | (with_reducible exact Below.size (by assumption)) | (simp; done) | (simp; omega))) | with_reducible refine Below.drew ?_ | with_reducible refine below_drewN ?_ _ | (with_reducible refine below_step (by assumption) ?side ?_; case side => (first | omega | (with_reducible exact Below.size (by assumption)) | (simp; done) | (simp; omega)))))).mono ?_; (rintro e w1 ⟨rfl, hb1⟩; obtain ⟨hc1, hf1⟩ := bcell hb1; have zs1 := hb1.size; (try simp at zs1); have n1_0 : w.heap.size < w1.heap.size := (by omega)))
  have d0 := fun j => (hc1 w.heap.size j (by first | omega | (simp; done) | (simp; omega))).trans ((al1_0 rfl).2.1 j)
  have B1 : Below w.heap.size w w1 := by (repeat first | with_reducible assumption | with_reducible exact Below.refl _ _ | (with_reducible refine Below.alloc ?_ ?side _; case side => (first | omega | (with_reducible exact Below.size (by assumption)) | (simp; done) | (simp; omega))) | (with_reducible refine Below.setCell ?_ ?side _; case side => (first | omega | (with_reducible exact Below.size (by assumption)) | (simp; done) | (simp; omega))) | with_reducible refine Below.drew ?_ | with_reducible refine below_drewN ?_ _ | (with_reducible refine below_step (by assumption) ?side ?_; case side => (first | omega | (with_reducible exact Below.size (by assumption)) | (simp; done) | (simp; omega))))
  have HX1 := Lib.hid (HXI.out.later B1)
  clear hc1 hf1 hb1 HXI
  go_loop [4, 16] (fun a i => ∃ k : Nat, k ≤ m ∧ i = .int .i64 k ∧ a = .int .u64 ((ofK l k : Nat) : Int) ∧ Hid (∀ j, j < k → stO n l j = true)) (fun _ i => m - (intOf i).toNat)
  case atStart => exact ⟨0, by omega, rfl, rfl, fun j hj => absurd hj (by omega)⟩
  case round =>
    obtain ⟨k, hk, rfl, rfl, H⟩ := hrel
    by_cases hlt : k < m
    · have hltB : decide ((k : Int) < m) = true := by simp; omega
      obtain ⟨b, o, hB, hb, x0⟩ := HX1.out.get hlt
      have hst : Hid (stO n l k = (wi_q7 (iAt l k) 0 ((n : Int) - 1) && !(decide (0 < k) && decide (iAt l k ≤ iAt l (k - 1))))) := rfl
      have hsc : Hid (ofK l (k + 1) = ofK l k ||| 2 ^ (iAt l k).toNat) := ofK_succ l k
      have hwi := within_c (iAt l k) 0 ((n : Int) - 1)
      cases e1 : wi_q7 (iAt l k) 0 ((n : Int) - 1)
      · rw [e1] at hwi
        have hRk := Lib.hid (HR.out k hlt (by rw [hst.out, e1]; rfl))
        replace hwi := Lib.hid hwi
        subst hB
        clear e1
        go_wp2_with (go_at_call 57; refine (hwi.out _).mono ?_; rintro e w' ⟨rfl, rfl⟩)
        exact bodyPost_ret (v := .tuple #[.int .u64 (0 : Nat), .int .i64 1]) (by simp [results, Tryz.results28, go_sem]) rfl ⟨by rw [hRk.out], by (repeat first | with_reducible assumption | with_reducible exact Below.refl _ _ | (with_reducible refine Below.alloc ?_ ?side _; case side => (first | omega | (with_reducible exact Below.size (by assumption)) | (simp; done) | (simp; omega))) | (with_reducible refine Below.setCell ?_ ?side _; case side => (first | omega | (with_reducible exact Below.size (by assumption)) | (simp; done) | (simp; omega))) | with_reducible refine Below.drew ?_ | with_reducible refine below_drewN ?_ _ | (with_reducible refine below_step (by assumption) ?side ?_; case side => (first | omega | (with_reducible exact Below.size (by assumption)) | (simp; done) | (simp; omega))))⟩
      · rw [e1] at hwi hst
        have hv := wi_true_q7.1 e1
        have hlt2 := ofK_lt (n := n) (Nat.le_of_lt hlt) H.out
        obtain ⟨v, hvv⟩ : ∃ v, iAt l k = v := ⟨_, rfl⟩
        rw [hvv] at hwi hst hsc hv x0
        obtain ⟨u, rfl⟩ : ∃ u : Nat, v = u := ⟨v.toNat, by omega⟩
        rw [Int.toNat_natCast] at hsc
        have hsh := shl1 u (by omega)
        have hpu : 2 ^ u ≤ 2 ^ 12 := Nat.pow_le_pow_right (by omega) (by omega)
        have hpn : 2 ^ n ≤ 2 ^ 12 := Nat.pow_le_pow_right (by omega) (by omega)
        obtain ⟨a, ha⟩ : ∃ a, ofK l k = a := ⟨_, rfl⟩
        obtain ⟨P, hP⟩ : ∃ P, 2 ^ u = P := ⟨_, rfl⟩
        rw [ha] at hsc hlt2 ⊢
        rw [hP] at hsc hsh hpu
        have hor := u64_or_nat a P (by omega) (by omega)
        replace hwi := Lib.hid hwi
        clear e1 ha hP hpu hpn hlt2 hvv
        cases k with
        | zero =>
          have hS1 := hst.out
          subst hB
          replace x0 : w1.cell? ⟨b, o, none⟩ = some (.int .i64 (u : Int)) := x0
          go_wp2_with (go_at_call 57; refine (hwi.out _).mono ?_; rintro e w' ⟨rfl, rfl⟩)
          refine ⟨⟨1, by omega, by simp, by rw [hsc.out], fun j hj => ?_⟩, by simp [intOf]; omega⟩
          obtain rfl : j = 0 := by omega
          rw [hst.out]; rfl
        | succ j =>
          obtain ⟨b2, o2, hB2, hb2, x1⟩ := HX1.out.get (show j < m by omega)
          obtain ⟨rfl, rfl⟩ : b = b2 ∧ o = o2 := by
            rw [hB] at hB2
            simpa using hB2
          rw [show j + 1 - 1 = j from rfl] at hst
          obtain ⟨y, hy⟩ : ∃ y, iAt l j = y := ⟨_, rfl⟩
          rw [hy] at hst x1
          clear hy hB2
          subst hB
          cases e2 : decide ((u : Int) ≤ y)
          · rw [e2] at hst
            go_wp2_with (go_at_call 57; refine (hwi.out _).mono ?_; rintro e w' ⟨rfl, rfl⟩)
            refine ⟨⟨j + 1 + 1, by omega, by simp, by rw [hsc.out], fun i hi => ?_⟩, by simp [intOf]; omega⟩
            rcases Nat.lt_succ_iff_lt_or_eq.1 hi with h | rfl
            · exact H.out i h
            · rw [hst.out]; simp
          · rw [e2] at hst
            have hRk := Lib.hid (HR.out (j + 1) hlt (by rw [hst.out]; simp))
            go_wp2_with (go_at_call 57; refine (hwi.out _).mono ?_; rintro e w' ⟨rfl, rfl⟩)
            exact bodyPost_ret (v := .tuple #[.int .u64 (0 : Nat), .int .i64 1]) (by simp [results, Tryz.results28, go_sem]) rfl ⟨by rw [hRk.out], by (repeat first | with_reducible assumption | with_reducible exact Below.refl _ _ | (with_reducible refine Below.alloc ?_ ?side _; case side => (first | omega | (with_reducible exact Below.size (by assumption)) | (simp; done) | (simp; omega))) | (with_reducible refine Below.setCell ?_ ?side _; case side => (first | omega | (with_reducible exact Below.size (by assumption)) | (simp; done) | (simp; omega))) | with_reducible refine Below.drew ?_ | with_reducible refine below_drewN ?_ _ | (with_reducible refine below_step (by assumption) ?side ?_; case side => (first | omega | (with_reducible exact Below.size (by assumption)) | (simp; done) | (simp; omega))))⟩
    · obtain rfl : k = m := by omega
      have hltB : decide (((k : Nat) : Int) < k) = false := by simp
      have hRk := Lib.hid (HO.out H.out)
      go_wp2_with fail
      exact bodyPost_ret (v := .tuple #[.int .u64 (ofK l k : Nat), .int .i64 0]) (by simp [results, Tryz.results28, go_sem]) rfl ⟨by rw [hRk.out], by (repeat first | with_reducible assumption | with_reducible exact Below.refl _ _ | (with_reducible refine Below.alloc ?_ ?side _; case side => (first | omega | (with_reducible exact Below.size (by assumption)) | (simp; done) | (simp; omega))) | (with_reducible refine Below.setCell ?_ ?side _; case side => (first | omega | (with_reducible exact Below.size (by assumption)) | (simp; done) | (simp; omega))) | with_reducible refine Below.drew ?_ | with_reducible refine below_drewN ?_ _ | (with_reducible refine below_step (by assumption) ?side ?_; case side => (first | omega | (with_reducible exact Below.size (by assumption)) | (simp; done) | (simp; omega))))⟩

end Go.Proofs.YtcbeiadimchknaaGreat

namespace Go.Proofs.YtcbeiadimchknaaGreat
open Go.RowKit
open Go.Sort (grow)
set_option linter.unusedVariables false
set_option linter.unusedSimpArgs false

/-- of a repair: its error; that it is good; its shackles -/
def gvE (n m : Nat) (ls : List Sp) (q : Cb) (l : List Int) : Int := (gvR n m ls q l).2
def gvG (n m : Nat) (ls : List Sp) (q : Cb) (l : List Int) : Bool := gvE n m ls q l == 0 && goodB q ls n (gvR n m ls q l).1
def gvS (n m : Nat) (ls : List Sp) (q : Cb) (l : List Int) : Int := bif gvE n m ls q l == 0 then shk (gvR n m ls q l).1 n else 0
theorem gvR_cases (n m : Nat) (ls : List Sp) (q : Cb) (l : List Int) : (∃ z : Int, z ≠ 0 ∧ gvR n m ls q l = (0, z)) ∨ (∃ x : Nat, gvR n m ls q l = (x, 0) ∧ x < 4096 ∧ n ≤ 12 ∧ ckC n ls q = true ∧ isR n m l = true ∧ x = ofK l m) := by
  cases h : ckC n ls q
  · exact .inl ⟨70, by omega, gv_ck h⟩
  · cases h2 : isR n m l
    · exact .inl ⟨1, by omega, gv_bad h h2⟩
    · have hn := ck_len h
      have a := ofK_lt (n := n) (Nat.le_refl m) (allN_iff.1 h2)
      have b : 2 ^ n ≤ 2 ^ 12 := Nat.pow_le_pow_right (by omega) hn
      exact .inr ⟨ofK l m, gv_ok h h2, by omega, hn, rfl, rfl, rfl⟩
set_option maxRecDepth 100000 in
set_option maxHeartbeats 1600000 in
theorem Shackles_c (A B : Option Addr) (n c m d : Nat) (q : Cb) (ls : List Sp) (l : List Int) (w : World) (hn : n ≤ 40) (hm : m ≤ 40) (hq : CbOk q) (HL : SpsAt w A n ls) (HX : IntsAt w B m l) :
    Calls Tryz.prog 10 #[.agg #[.slice A n c, .int .i64 q.need, .int .i64 q.gap, .int .i64 q.doubt, .int .i64 q.joins, .int .i64 q.least], .slice B m d] w
      fun e w' => e = .returned (.tuple #[.int .i64 (gvS n m ls q l), .int .i64 (gvE n m ls q l)]) ∧ Below w.heap.size w w' := by
  have hgv : ∀ W, Below w.heap.size w W → Calls Tryz.prog 28 #[.agg #[.slice A n c, .int .i64 q.need, .int .i64 q.gap, .int .i64 q.doubt, .int .i64 q.joins, .int .i64 q.least], .slice B m d] W
      fun e w' => e = .returned (.tuple #[.int .u64 ((gvR n m ls q l).1 : Nat), .int .i64 (gvR n m ls q l).2]) ∧ Below W.heap.size W w' := fun W hW =>
    given_c A B n c m d q ls l W hn hm hq (HL.later hW) (HX.later hW)
  rcases gvR_cases n m ls q l with ⟨z, hz, e⟩ | ⟨x, e, hx, hn12, -, -, -⟩
  · have e1 : gvE n m ls q l = z := by rw [gvE, e]
    have hzB : (z == 0) = false := by simpa using hz
    have hzC : (z != 0) = true := by simpa using hz
    have e2 : gvS n m ls q l = 0 := by rw [gvS, e1, hzB]; rfl
    rw [e] at hgv
    rw [e1, e2]
    replace hgv := Lib.hid hgv
    clear e e1 e2 HL HX hzB
    go_enter Tryz.func10, Tryz.ntmps10
    go_wp2_with (go_at_call 28; refine (hgv.out _ (by (repeat first | with_reducible assumption | with_reducible exact Below.refl _ _ | (with_reducible refine Below.alloc ?_ ?side _; case side => (first | omega | (with_reducible exact Below.size (by assumption)) | (simp; done) | (simp; omega))) | (with_reducible refine Below.setCell ?_ ?side _; case side => (first | omega | (with_reducible exact Below.size (by assumption)) | (simp; done) | (simp; omega))) | with_reducible refine Below.drew ?_ | with_reducible refine below_drewN ?_ _ | (with_reducible refine below_step (by assumption) ?side ?_; case side => (first | omega | (with_reducible exact Below.size (by assumption)) | (simp; done) | (simp; omega)))))).mono ?_; (rintro e w1 ⟨rfl, hb1⟩; obtain ⟨hc1, hf1⟩ := bcell hb1; have zs1 := hb1.size; (try simp at zs1); have n1_0 : w.heap.size < w1.heap.size := (by omega)))
    exact bodyPost_ret (v := .tuple #[.int .i64 0, .int .i64 z]) (by simp [results, Tryz.results10, go_sem]) rfl ⟨rfl, by (repeat first | with_reducible assumption | with_reducible exact Below.refl _ _ | (with_reducible refine Below.alloc ?_ ?side _; case side => (first | omega | (with_reducible exact Below.size (by assumption)) | (simp; done) | (simp; omega))) | (with_reducible refine Below.setCell ?_ ?side _; case side => (first | omega | (with_reducible exact Below.size (by assumption)) | (simp; done) | (simp; omega))) | with_reducible refine Below.drew ?_ | with_reducible refine below_drewN ?_ _ | (with_reducible refine below_step (by assumption) ?side ?_; case side => (first | omega | (with_reducible exact Below.size (by assumption)) | (simp; done) | (simp; omega))))⟩
  · have e1 : gvE n m ls q l = 0 := by rw [gvE, e]
    have e2 : gvS n m ls q l = shk x n := by rw [gvS, e1, e]; rfl
    have hsk := fun W => shackles_c x n W (by omega) (by omega)
    obtain ⟨g, hg⟩ : ∃ g, shk x n = g := ⟨_, rfl⟩
    rw [hg] at hsk e2
    rw [e] at hgv
    rw [e1, e2]
    replace hgv := Lib.hid hgv
    replace hsk := Lib.hid hsk
    clear e e1 e2 HL HX hg
    go_enter Tryz.func10, Tryz.ntmps10
    go_wp2_with (go_at_call 28; refine (hgv.out _ (by (repeat first | with_reducible assumption | with_reducible exact Below.refl _ _ | (with_reducible refine Below.alloc ?_ ?side _; case side => (first | omega | (with_reducible exact Below.size (by assumption)) | (simp; done) | (simp; omega))) | (with_reducible refine Below.setCell ?_ ?side _; case side => (first | omega | (with_reducible exact Below.size (by assumption)) | (simp; done) | (simp; omega))) | with_reducible refine Below.drew ?_ | with_reducible refine below_drewN ?_ _ | (with_reducible refine below_step (by assumption) ?side ?_; case side => (first | omega | (with_reducible exact Below.size (by assumption)) | (simp; done) | (simp; omega)))))).mono ?_; (rintro e w1 ⟨rfl, hb1⟩; obtain ⟨hc1, hf1⟩ := bcell hb1; have zs1 := hb1.size; (try simp at zs1); have n1_0 : w.heap.size < w1.heap.size := (by omega)))
    have d0 := fun j => (hc1 w.heap.size j (by first | omega | (simp; done) | (simp; omega))).trans ((al1_0 rfl).2.1 j)
    have B1 : Below w.heap.size w w1 := by (repeat first | with_reducible assumption | with_reducible exact Below.refl _ _ | (with_reducible refine Below.alloc ?_ ?side _; case side => (first | omega | (with_reducible exact Below.size (by assumption)) | (simp; done) | (simp; omega))) | (with_reducible refine Below.setCell ?_ ?side _; case side => (first | omega | (with_reducible exact Below.size (by assumption)) | (simp; done) | (simp; omega))) | with_reducible refine Below.drew ?_ | with_reducible refine below_drewN ?_ _ | (with_reducible refine below_step (by assumption) ?side ?_; case side => (first | omega | (with_reducible exact Below.size (by assumption)) | (simp; done) | (simp; omega))))
    clear hc1 hf1
    go_wp2_with (go_at_call 29; refine (hsk.out _).mono ?_; (rintro e w2 ⟨rfl, hb2⟩; obtain ⟨hc2, hf2⟩ := bcell hb2; have zs2 := hb2.size; (try simp at zs2); have n2_0 : w.heap.size < w2.heap.size := (by omega)))
    exact bodyPost_ret (v := .tuple #[.int .i64 g, .int .i64 0]) (by simp [results, Tryz.results10, go_sem]) rfl ⟨rfl, by (repeat first | with_reducible assumption | with_reducible exact Below.refl _ _ | (with_reducible refine Below.alloc ?_ ?side _; case side => (first | omega | (with_reducible exact Below.size (by assumption)) | (simp; done) | (simp; omega))) | (with_reducible refine Below.setCell ?_ ?side _; case side => (first | omega | (with_reducible exact Below.size (by assumption)) | (simp; done) | (simp; omega))) | with_reducible refine Below.drew ?_ | with_reducible refine below_drewN ?_ _ | (with_reducible refine below_step (by assumption) ?side ?_; case side => (first | omega | (with_reducible exact Below.size (by assumption)) | (simp; done) | (simp; omega))))⟩

end Go.Proofs.YtcbeiadimchknaaGreat

namespace Go.Proofs.YtcbeiadimchknaaGreat
open Go.RowKit
open Go.Sort (grow)
set_option linter.unusedVariables false
set_option linter.unusedSimpArgs false



end Go.Proofs.YtcbeiadimchknaaGreat
