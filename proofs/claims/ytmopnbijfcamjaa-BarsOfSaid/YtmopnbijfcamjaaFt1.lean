/- Fits of bars (layer 1), with slices.Equal and slices.ContainsFunc. -/
import Derived.BigRegionIn
import Derived.Shelf.RegionOpen
import Derived.Handy
import Derived.Test.YtmopnbijfcamjaaFw1
import Derived.Test.YtmopnbijfcamjaaQs
namespace Go.Proofs.Ytmopnbijfcamjaa
open Go.RowKit
open Go.Sort (grow)
set_option linter.unusedVariables false

attribute [local go_sem] Oper.semAt_some
def eqI (xs ys : List Int) : Bool := xs.length == ys.length && allN xs.length fun k => iAt xs k == iAt ys k
theorem eqI_iff {xs ys : List Int} : eqI xs ys = true ↔ xs = ys := by
  unfold eqI
  simp only [Bool.and_eq_true, beq_iff_eq, allN_iff]
  refine ⟨fun ⟨h, h2⟩ => ?_, fun h => by subst h; simp⟩
  apply List.ext_getElem? fun k => ?_
  by_cases hk : k < xs.length
  · have := h2 k hk
    unfold iAt at this
    rw [List.getD_eq_getElem?_getD, List.getD_eq_getElem?_getD, List.getElem?_eq_getElem hk, List.getElem?_eq_getElem (by omega)] at this
    rw [List.getElem?_eq_getElem hk, List.getElem?_eq_getElem (by omega)]
    simpa using this
  · rw [List.getElem?_eq_none (by omega), List.getElem?_eq_none (by omega)]
set_option maxRecDepth 100000 in
set_option maxHeartbeats 1600000 in
theorem equal_c (A B : Option Addr) (n m c d : Nat) (xs ys : List Int) (w : World) (hn : n ≤ 40) (hm : m ≤ 40) (HX : IntsAt w A n xs) (HY : IntsAt w B m ys) :
    Calls Try.prog 78 #[.slice A n c, .slice B m d] w fun e w' => e = .returned (.bool (eqI xs ys)) ∧ Below w.heap.size w w' := by
  have hE : eqI xs ys = (n == m && allN n fun k => iAt xs k == iAt ys k) := by unfold eqI; rw [HX.1, HY.1]
  rw [hE]
  clear hE
  cases e0 : (n == m)
  · have hne : n ≠ m := by simpa using e0
    have hneB : ((n : Int) != m) = true := by simp; omega
    go_enter Try.func78, Try.ntmps78
    go_wp2
    go_ret
    exact ⟨rfl, by (repeat first | with_reducible assumption | with_reducible exact Below.refl _ _ | (with_reducible refine Below.alloc ?_ ?side _; case side => (first | omega | (with_reducible exact Below.size (by assumption)) | (simp; done) | (simp; omega))) | (with_reducible refine Below.setCell ?_ ?side _; case side => (first | omega | (with_reducible exact Below.size (by assumption)) | (simp; done) | (simp; omega))) | with_reducible refine Below.drew ?_ | with_reducible refine below_drewN ?_ _ | (with_reducible refine below_step (by assumption) ?side ?_; case side => (first | omega | (with_reducible exact Below.size (by assumption)) | (simp; done) | (simp; omega))))⟩
  obtain rfl : n = m := by simpa using e0
  go_enter Try.func78, Try.ntmps78
  go_wp2
  go_loopw [13] (fun i (wr : World) => ∃ k : Nat, k ≤ n ∧ i = .int .i64 k ∧ Hid (∀ j, j < k → (iAt xs j == iAt ys j) = true) ∧ Below w.heap.size w wr) (fun i _ => n - (intOf i).toNat)
  case atStart => exact ⟨0, by omega, rfl, fun j hj => absurd hj (by omega), Below.refl _ _⟩
  case round =>
    obtain ⟨k, hk, rfl, H, hb⟩ := hrel
    by_cases hlt : k < n
    · obtain ⟨b, o, rfl, hb1, x0⟩ := (HX.later hb).get hlt
      obtain ⟨b', o', rfl, hb2, y0⟩ := (HY.later hb).get hlt
      have hB : decide ((k : Int) < n) = true := by simp; omega
      obtain ⟨u, hu⟩ : ∃ u, iAt xs k = u := ⟨_, rfl⟩
      obtain ⟨v, hv⟩ : ∃ u, iAt ys k = u := ⟨_, rfl⟩
      rw [hu] at x0
      rw [hv] at y0
      by_cases e1 : u = v
      · have e1B : (u != v) = false := by simp [e1]
        have hK := Lib.hid (by rw [hu, hv, e1]; simp : (iAt xs k == iAt ys k) = true)
        replace e1 := Lib.hid e1
        clear hu hv
        go_wp2
        go_quiet (fail)
        go_wp2
        go_roundw
        case rel => exact ⟨k + 1, by omega, by go_num, fun j hj => by
          rcases Nat.lt_succ_iff_lt_or_eq.1 hj with h | rfl
          · exact H.out j h
          · exact hK.out, by (repeat first | with_reducible assumption | with_reducible exact Below.refl _ _ | (with_reducible refine Below.alloc ?_ ?side _; case side => (first | omega | (with_reducible exact Below.size (by assumption)) | (simp; done) | (simp; omega))) | (with_reducible refine Below.setCell ?_ ?side _; case side => (first | omega | (with_reducible exact Below.size (by assumption)) | (simp; done) | (simp; omega))) | with_reducible refine Below.drew ?_ | with_reducible refine below_drewN ?_ _ | (with_reducible refine below_step (by assumption) ?side ?_; case side => (first | omega | (with_reducible exact Below.size (by assumption)) | (simp; done) | (simp; omega))))⟩
        case measure => simp [intOf]; omega
      · have e1B : (u != v) = true := by simpa using e1
        have hA := Lib.hid (allN_no (p := fun k => iAt xs k == iAt ys k) hlt (by show (iAt xs k == iAt ys k) = false; rw [hu, hv]; simpa using e1))
        replace e1 := Lib.hid e1
        clear hu hv
        go_wp2
        go_quiet (fail)
        go_wp2
        go_ret
        exact ⟨ret_bool (by rw [hA.out]; simp), by (repeat first | with_reducible assumption | with_reducible exact Below.refl _ _ | (with_reducible refine Below.alloc ?_ ?side _; case side => (first | omega | (with_reducible exact Below.size (by assumption)) | (simp; done) | (simp; omega))) | (with_reducible refine Below.setCell ?_ ?side _; case side => (first | omega | (with_reducible exact Below.size (by assumption)) | (simp; done) | (simp; omega))) | with_reducible refine Below.drew ?_ | with_reducible refine below_drewN ?_ _ | (with_reducible refine below_step (by assumption) ?side ?_; case side => (first | omega | (with_reducible exact Below.size (by assumption)) | (simp; done) | (simp; omega))))⟩
    · obtain rfl : n = k := by omega
      have hA := Lib.hid (allN_iff.2 H.out)
      have hB : decide (((n : Nat) : Int) < n) = false := by simp
      clear H
      go_wp2
      go_ret
      exact ⟨ret_bool (by rw [hA.out]; rfl), by (repeat first | with_reducible assumption | with_reducible exact Below.refl _ _ | (with_reducible refine Below.alloc ?_ ?side _; case side => (first | omega | (with_reducible exact Below.size (by assumption)) | (simp; done) | (simp; omega))) | (with_reducible refine Below.setCell ?_ ?side _; case side => (first | omega | (with_reducible exact Below.size (by assumption)) | (simp; done) | (simp; omega))) | with_reducible refine Below.drew ?_ | with_reducible refine below_drewN ?_ _ | (with_reducible refine below_step (by assumption) ?side ?_; case side => (first | omega | (with_reducible exact Below.size (by assumption)) | (simp; done) | (simp; omega))))⟩
set_option maxHeartbeats 400000 in
theorem indexFunc_c (A : Option Addr) (n c g : Nat) (fst cap : Array Value) (xs : List Int) (p : Nat → Bool) (w : World) (hn : n ≤ 40) (HX : IntsAt w A n xs)
    (HE : ∀ args w, (callFunc g args).run Try.prog w = .ok (.enter g args) w)
    (HF : ∀ k, k < n → ∀ w', Below w.heap.size w w' → Calls Try.prog g (fst.push (.int .i64 (iAt xs k)) ++ cap) w' fun e w'' => e = .returned (.bool (p k)) ∧ Below w'.heap.size w' w'') :
    Calls Try.prog 85 #[.slice A n c, .func (.func g) fst cap] w fun e w' => e = .returned (.int .i64 (idxN n p)) ∧ Below w.heap.size w w' := by
  have HFI := Lib.hid HF
  have HXI := Lib.hid HX
  clear HF HX
  go_enter Try.func85, Try.ntmps85
  go_wp2
  go_loopw [8] (fun i (wr : World) => ∃ k : Nat, k ≤ n ∧ i = .int .i64 k ∧ Hid (∀ j, j < k → p j = false) ∧ Below w.heap.size w wr) (fun i _ => n - (intOf i).toNat)
  case atStart => exact ⟨0, by omega, rfl, fun j hj => absurd hj (by omega), Below.refl _ _⟩
  case round =>
    obtain ⟨k, hk, rfl, H1, hb⟩ := hrel
    have zb := hb.size
    by_cases hlt : k < n
    · obtain ⟨bp, op, rfl, hbp, x0⟩ := (HXI.out.later hb).get hlt
      go_wp2_with fail
      refine (HFI.out k hlt _ hb).mono ?_
      (rintro e w1 ⟨rfl, hb1⟩; obtain ⟨hc1, hf1⟩ := bcell hb1; have zs1 := hb1.size; (try simp at zs1))
      go_wp2
      all_goals first
        | (go_roundw
           case rel => exact ⟨k + 1, by omega, by go_num, fun j hj => by
             rcases Nat.lt_succ_iff_lt_or_eq.1 hj with h | rfl
             · exact H1.out j h
             · rename_i h; simpa using h, by (repeat first | with_reducible assumption | with_reducible exact Below.refl _ _ | (with_reducible refine Below.alloc ?_ ?side _; case side => (first | omega | (with_reducible exact Below.size (by assumption)) | (simp; done) | (simp; omega))) | (with_reducible refine Below.setCell ?_ ?side _; case side => (first | omega | (with_reducible exact Below.size (by assumption)) | (simp; done) | (simp; omega))) | with_reducible refine Below.drew ?_ | with_reducible refine below_drewN ?_ _ | (with_reducible refine below_step (by assumption) ?side ?_; case side => (first | omega | (with_reducible exact Below.size (by assumption)) | (simp; done) | (simp; omega))))⟩
           case measure => simp [intOf]; omega)
        | (go_ret
           rename_i h
           exact ⟨ret_int (idxN_some hlt (by simpa using h) H1.out).symm, by (repeat first | with_reducible assumption | with_reducible exact Below.refl _ _ | (with_reducible refine Below.alloc ?_ ?side _; case side => (first | omega | (with_reducible exact Below.size (by assumption)) | (simp; done) | (simp; omega))) | (with_reducible refine Below.setCell ?_ ?side _; case side => (first | omega | (with_reducible exact Below.size (by assumption)) | (simp; done) | (simp; omega))) | with_reducible refine Below.drew ?_ | with_reducible refine below_drewN ?_ _ | (with_reducible refine below_step (by assumption) ?side ?_; case side => (first | omega | (with_reducible exact Below.size (by assumption)) | (simp; done) | (simp; omega))))⟩)
    · obtain rfl : n = k := by omega
      go_wp2
      go_ret
      exact ⟨ret_int (idxN_none H1.out).symm, by (repeat first | with_reducible assumption | with_reducible exact Below.refl _ _ | (with_reducible refine Below.alloc ?_ ?side _; case side => (first | omega | (with_reducible exact Below.size (by assumption)) | (simp; done) | (simp; omega))) | (with_reducible refine Below.setCell ?_ ?side _; case side => (first | omega | (with_reducible exact Below.size (by assumption)) | (simp; done) | (simp; omega))) | with_reducible refine Below.drew ?_ | with_reducible refine below_drewN ?_ _ | (with_reducible refine below_step (by assumption) ?side ?_; case side => (first | omega | (with_reducible exact Below.size (by assumption)) | (simp; done) | (simp; omega))))⟩
set_option maxHeartbeats 400000 in
theorem containsFunc_c (A : Option Addr) (n c g : Nat) (fst cap : Array Value) (xs : List Int) (p : Nat → Bool) (w : World) (hn : n ≤ 40) (HX : IntsAt w A n xs)
    (HE : ∀ args w, (callFunc g args).run Try.prog w = .ok (.enter g args) w)
    (HF : ∀ k, k < n → ∀ w', Below w.heap.size w w' → Calls Try.prog g (fst.push (.int .i64 (iAt xs k)) ++ cap) w' fun e w'' => e = .returned (.bool (p k)) ∧ Below w'.heap.size w' w'') :
    Calls Try.prog 76 #[.slice A n c, .func (.func g) fst cap] w fun e w' => e = .returned (.bool (anyN n p)) ∧ Below w.heap.size w w' := by
  have HC := Lib.hid (indexFunc_c A n c g fst cap xs p w hn HX HE HF)
  clear HF HX
  go_enter Try.func76, Try.ntmps76
  go_wp2_with fail
  refine HC.out.mono ?_
  (rintro e w1 ⟨rfl, hb1⟩; obtain ⟨hc1, hf1⟩ := bcell hb1; have zs1 := hb1.size; (try simp at zs1))
  go_wp2
  go_ret
  exact ⟨ret_bool idxN_ge, by (repeat first | with_reducible assumption | with_reducible exact Below.refl _ _ | (with_reducible refine Below.alloc ?_ ?side _; case side => (first | omega | (with_reducible exact Below.size (by assumption)) | (simp; done) | (simp; omega))) | (with_reducible refine Below.setCell ?_ ?side _; case side => (first | omega | (with_reducible exact Below.size (by assumption)) | (simp; done) | (simp; omega))) | with_reducible refine Below.drew ?_ | with_reducible refine below_drewN ?_ _ | (with_reducible refine below_step (by assumption) ?side ?_; case side => (first | omega | (with_reducible exact Below.size (by assumption)) | (simp; done) | (simp; omega))))⟩
set_option maxHeartbeats 400000 in
theorem fits1_c (Ab Ap : Option Addr) (nb cb np cp b : Nat) (kf wrg x : Int) (w : World) (h1 : nb ≤ 40) (h2 : np ≤ 40) (q : ∀ i, w.cell? ⟨b, i, none⟩ = #[Value.slice Ab nb cb, .int .i64 kf, .slice Ap np cp, .int .i64 wrg][i]?) :
    Calls Try.prog 77 #[.int .i64 x, .pointer (some ⟨b, 0, none⟩)] w fun e w' => e = .returned (.bool (!wi x 0 ((nb : Int) - 1))) ∧ Below w.heap.size w w' := by
  go_enter Try.func77, Try.ntmps77
  go_wp2_with (go_at_call 71; refine (isBar_c Ab Ap nb cb np cp kf wrg x _ h1 h2).mono ?_; rintro e w' ⟨rfl, hb⟩)
  go_ret
  exact ⟨rfl, by (repeat first | with_reducible assumption | with_reducible exact Below.refl _ _ | (with_reducible refine Below.alloc ?_ ?side _; case side => (first | omega | (with_reducible exact Below.size (by assumption)) | (simp; done) | (simp; omega))) | (with_reducible refine Below.setCell ?_ ?side _; case side => (first | omega | (with_reducible exact Below.size (by assumption)) | (simp; done) | (simp; omega))) | with_reducible refine Below.drew ?_ | with_reducible refine below_drewN ?_ _ | (with_reducible refine below_step (by assumption) ?side ?_; case side => (first | omega | (with_reducible exact Below.size (by assumption)) | (simp; done) | (simp; omega))))⟩
def badI (nb : Nat) (ls : List Int) : Bool := anyN ls.length fun k => !wi (iAt ls k) 0 ((nb : Int) - 1)
def fitP (bs : List Br) (ps : List Pc) (kf wr : Int) (ls : List Int) : Bool × Int :=
  bif ckS bs ps kf wr then (bif ls.length == ps.length && !badI bs.length ls then ((swA bs ps kf wr).any fun x => eqI x.of ls, 0) else (false, 1)) else (false, 10)
set_option maxRecDepth 100000 in
set_option maxHeartbeats 3200000 in
theorem fits_c1 (Ab Ap As : Option Addr) (nb cb np cp ns cs : Nat) (kf wrg : Int) (bs : List Br) (ms : List Pm) (ps : List Pc) (ls : List Int) (w : World) (h1 : nb ≤ 40) (h2 : np ≤ 40) (h4 : ns ≤ 40) (h3 : ∀ k, k < np → (pcAt ps k).hs.length ≤ 40) (HB : BrsAt w Ab nb bs) (HP : PcsAt w Ap np ms ps) (HS : IntsAt w As ns ls) :
    Calls Try.prog 45 #[.agg #[.slice Ab nb cb, .int .i64 kf, .slice Ap np cp, .int .i64 wrg], .slice As ns cs] w fun e w' => e = .returned (.tuple #[.bool (fitP bs ps kf wrg ls).1, .int .i64 (fitP bs ps kf wrg ls).2]) ∧ Below w.heap.size w w' := by
  have HBI := Lib.hid HB
  have HPI := Lib.hid HP
  have HSI := Lib.hid HS
  have hck := fun W (hb : Below w.heap.size w W) => check_c Ab Ap nb cb np cp kf wrg bs ms ps W h1 h2 h3 (HB.later hb) (HP.later hb)
  have hBl := HB.1
  have hPl := HP.pl
  have hSl := HS.1
  cases ek : ckS bs ps kf wrg
  · have e1 : fitP bs ps kf wrg ls = (false, 10) := by simp [fitP, ek]
    rw [e1]
    rw [ek, show erS false = 10 from rfl] at hck
    replace hck := Lib.hid hck
    clear HB HP HS hBl hPl hSl h3 e1 ek
    go_enter Try.func45, Try.ntmps45
    go_wp2_with fail
    refine (hck.out _ (by (repeat first | with_reducible assumption | with_reducible exact Below.refl _ _ | (with_reducible refine Below.alloc ?_ ?side _; case side => (first | omega | (with_reducible exact Below.size (by assumption)) | (simp; done) | (simp; omega))) | (with_reducible refine Below.setCell ?_ ?side _; case side => (first | omega | (with_reducible exact Below.size (by assumption)) | (simp; done) | (simp; omega))) | with_reducible refine Below.drew ?_ | with_reducible refine below_drewN ?_ _ | (with_reducible refine below_step (by assumption) ?side ?_; case side => (first | omega | (with_reducible exact Below.size (by assumption)) | (simp; done) | (simp; omega)))))).mono ?_
    (rintro e w1 ⟨rfl, hb1⟩; obtain ⟨hc1, hf1⟩ := bcell hb1; have zs1 := hb1.size; (try simp at zs1); have n1_0 : w.heap.size < w1.heap.size := (by omega); have n1_1 : w.heap.size + 1 < w1.heap.size := (by omega); have n1_2 : w.heap.size + 2 < w1.heap.size := (by omega); have n1_3 : w.heap.size + 3 < w1.heap.size := (by omega))
    have P0 := fun i => (hc1 (w.heap.size) i (by first | omega | (simp; done) | (simp; omega))).trans ((al4_0 rfl).2.1 i)
    have P1 := (hc1 (w.heap.size + 1) 0 (by first | omega | (simp; done) | (simp; omega))).trans ((al4_1 rfl).2.1 0)
    have P2 := (hc1 (w.heap.size + 1 + 1) 0 (by first | omega | (simp; done) | (simp; omega))).trans ((al4_2 rfl).2.1 0)
    have P3 := (hc1 (w.heap.size + 1 + 1 + 1) 0 (by first | omega | (simp; done) | (simp; omega))).trans ((al4_3 rfl).2.1 0)
    have G2 := (hf1 (w.heap.size + 1 + 1) 0 (by first | omega | (simp; done) | (simp; omega))).trans ((al4_2 rfl).2.2 0)
    have G3 := (hf1 (w.heap.size + 1 + 1 + 1) 0 (by first | omega | (simp; done) | (simp; omega))).trans ((al4_3 rfl).2.2 0)
    go_wp2
    obtain ⟨d1, d2⟩ := two_cells (u := .bool false) (v := .int .i64 10) (by simp) P2 P3
    exact bodyPost_ret (v := .tuple #[.bool false, .int .i64 10]) (by simp [results, Try.results45, go_sem, d1, d2]) rfl ⟨rfl, by (repeat first | with_reducible assumption | with_reducible exact Below.refl _ _ | (with_reducible refine Below.alloc ?_ ?side _; case side => (first | omega | (with_reducible exact Below.size (by assumption)) | (simp; done) | (simp; omega))) | (with_reducible refine Below.setCell ?_ ?side _; case side => (first | omega | (with_reducible exact Below.size (by assumption)) | (simp; done) | (simp; omega))) | with_reducible refine Below.drew ?_ | with_reducible refine below_drewN ?_ _ | (with_reducible refine below_step (by assumption) ?side ?_; case side => (first | omega | (with_reducible exact Below.size (by assumption)) | (simp; done) | (simp; omega))))⟩
  rw [ek, show erS true = 0 from rfl] at hck
  obtain ⟨ok, hw0, hw8⟩ := okSt_of hBl hPl h3 ek
  have e1 : fitP bs ps kf wrg ls = bif ns == np && !badI nb ls then ((swA bs ps kf wrg).any fun x => eqI x.of ls, 0) else (false, 1) := by unfold fitP; rw [ek, hSl, hPl, hBl]; rfl
  rw [e1]
  have OK := Lib.hid ok
  have hnp8 := ok.hp
  replace hck := Lib.hid hck
  by_cases hn : ns = np
  · subst hn
    have hnB : ((ns : Int) != ns) = false := by simp
    have en77 : ∀ args w, (callFunc 77 args).run Try.prog w = .ok (.enter 77 args) w := enters_of Try.func77 (by kernel_rfl) rfl
    have hBI : badI nb ls = anyN ns fun k => !wi (iAt ls k) 0 ((nb : Int) - 1) := by unfold badI; rw [hSl]
    cases eb : badI nb ls
    · rw [show ((ns == ns && !false) = true) by simp]
      rw [eb] at hBI
      have HBA := Lib.hid hBI
      have HPL := Lib.hid hPl
      have hsl := hSl
      obtain ⟨T, hT⟩ : ∃ T, swA bs ps kf wrg = T := ⟨_, rfl⟩
      rw [hT]
      have HT := Lib.hid hT
      clear HB HP HS hBl hPl hSl h3 e1 ek hBI eb ok hT
      refine (callsIn_wide (n := 6)).1 (callsIn_of_wp_marks Try.func45 rfl trivial ?_ rfl)
      simp only [Try.ntmps45, List.size_toArray, List.length_cons, List.length_nil, Nat.reduceAdd, Nat.reduceSub, Array.replicate_succ, Array.replicate_zero, List.push_toArray, List.append_toArray, List.nil_append, List.cons_append]
      gi_wp2_with fail
      refine ⟨trivial, callsIn_wide.2 ((hck.out _ (by (repeat first | with_reducible assumption | with_reducible exact Below.refl _ _ | (with_reducible refine Below.alloc ?_ ?side _; case side => (first | omega | (with_reducible exact Below.size (by assumption)) | (simp; done) | (simp; omega))) | (with_reducible refine Below.setCell ?_ ?side _; case side => (first | omega | (with_reducible exact Below.size (by assumption)) | (simp; done) | (simp; omega))) | with_reducible refine Below.drew ?_ | with_reducible refine below_drewN ?_ _ | (with_reducible refine below_step (by assumption) ?side ?_; case side => (first | omega | (with_reducible exact Below.size (by assumption)) | (simp; done) | (simp; omega)))))).mono ?_)⟩
      (rintro e w1 ⟨rfl, hb1⟩; obtain ⟨hc1, hf1⟩ := bcell hb1; have zs1 := hb1.size; (try simp at zs1); have n1_0 : w.heap.size < w1.heap.size := (by omega); have n1_1 : w.heap.size + 1 < w1.heap.size := (by omega); have n1_2 : w.heap.size + 2 < w1.heap.size := (by omega); have n1_3 : w.heap.size + 3 < w1.heap.size := (by omega))
      have P0 := fun i => (hc1 (w.heap.size) i (by first | omega | (simp; done) | (simp; omega))).trans ((al4_0 rfl).2.1 i)
      have P1 := (hc1 (w.heap.size + 1) 0 (by first | omega | (simp; done) | (simp; omega))).trans ((al4_1 rfl).2.1 0)
      have P2 := (hc1 (w.heap.size + 1 + 1) 0 (by first | omega | (simp; done) | (simp; omega))).trans ((al4_2 rfl).2.1 0)
      have P3 := (hc1 (w.heap.size + 1 + 1 + 1) 0 (by first | omega | (simp; done) | (simp; omega))).trans ((al4_3 rfl).2.1 0)
      have G2 := (hf1 (w.heap.size + 1 + 1) 0 (by first | omega | (simp; done) | (simp; omega))).trans ((al4_2 rfl).2.2 0)
      have G3 := (hf1 (w.heap.size + 1 + 1 + 1) 0 (by first | omega | (simp; done) | (simp; omega))).trans ((al4_3 rfl).2.2 0)
      have hbw1 : Below w.heap.size w w1 := by (repeat first | with_reducible assumption | with_reducible exact Below.refl _ _ | (with_reducible refine Below.alloc ?_ ?side _; case side => (first | omega | (with_reducible exact Below.size (by assumption)) | (simp; done) | (simp; omega))) | (with_reducible refine Below.setCell ?_ ?side _; case side => (first | omega | (with_reducible exact Below.size (by assumption)) | (simp; done) | (simp; omega))) | with_reducible refine Below.drew ?_ | with_reducible refine below_drewN ?_ _ | (with_reducible refine below_step (by assumption) ?side ?_; case side => (first | omega | (with_reducible exact Below.size (by assumption)) | (simp; done) | (simp; omega))))
      have zz1 := hbw1.size
      clear hc1 hf1
      gi_wp2_with fail
      refine ⟨trivial, callsIn_wide.2 ((containsFunc_c As ns cs _ #[] #[.pointer (some ⟨w.heap.size, 0, none⟩)] ls (fun k => !wi (iAt ls k) 0 ((nb : Int) - 1)) _ h4 (HSI.out.later hbw1) en77 (fun k hk w' hb => ?_)).mono ?_)⟩
      · have := fits1_c Ab Ap nb cb ns cp w.heap.size kf wrg (iAt ls k) w' h1 h2 (fun i => (hb.cell (p := ⟨w.heap.size, i, none⟩) (by show w.heap.size < _; omega)).trans (P0 i))
        simpa using this
      rintro e w2 ⟨rfl, hb2⟩
      rw [← HBA.out]
      have z2 := hb2.size
      have hbw2 : Below w.heap.size w w2 := hbw1.trans (hb2.mono zz1)
      have d0 := fun i => (hb2.cell (p := ⟨w.heap.size, i, none⟩) (by show w.heap.size < _; omega)).trans (P0 i)
      have d1 := (hb2.cell (p := ⟨w.heap.size + 1, 0, none⟩) (by show w.heap.size + 1 < _; omega)).trans P1
      have d2 := (hb2.cell (p := ⟨w.heap.size + 1 + 1, 0, none⟩) (by show w.heap.size + 1 + 1 < _; omega)).trans P2
      have d3 := (hb2.cell (p := ⟨w.heap.size + 1 + 1 + 1, 0, none⟩) (by show w.heap.size + 1 + 1 + 1 < _; omega)).trans P3
      have g2 := (hb2.frozen (p := ⟨w.heap.size + 1 + 1, 0, none⟩) (by show w.heap.size + 1 + 1 < _; omega)).trans G2
      have g3 := (hb2.frozen (p := ⟨w.heap.size + 1 + 1 + 1, 0, none⟩) (by show w.heap.size + 1 + 1 + 1 < _; omega)).trans G3
      have lw : w.heap.size + 1 + 1 + 1 < w2.heap.size := by omega
      clear P0 P1 P2 P3 G2 G3 hb2 hb1
      gi_wp2_with fail
      refine ⟨trivial, callsIn_wide.2 ((sawings_c Ab Ap nb cb ns cp kf wrg wrg w2).mono ?_)⟩
      rintro e w3 ⟨b1, b2, rfl, p1, p2, k1, k2, hb3⟩
      have hne : b1 ≠ b2 := by
        rintro rfl
        have := Eq.trans k1.symm k2
        simp at this
      have z3 := hb3.size
      have hbw3 : Below w.heap.size w w3 := hbw2.trans (hb3.mono (by omega))
      have D1 := (hb3.cell (p := ⟨w.heap.size + 1, 0, none⟩) (by show w.heap.size + 1 < _; omega)).trans d1
      have D2 := (hb3.cell (p := ⟨w.heap.size + 1 + 1, 0, none⟩) (by show w.heap.size + 1 + 1 < _; omega)).trans d2
      have D3 := (hb3.cell (p := ⟨w.heap.size + 1 + 1 + 1, 0, none⟩) (by show w.heap.size + 1 + 1 + 1 < _; omega)).trans d3
      have E2 := (hb3.frozen (p := ⟨w.heap.size + 1 + 1, 0, none⟩) (by show w.heap.size + 1 + 1 < _; omega)).trans g2
      have E3 := (hb3.frozen (p := ⟨w.heap.size + 1 + 1 + 1, 0, none⟩) (by show w.heap.size + 1 + 1 + 1 < _; omega)).trans g3
      have R3 := Lib.hid (RgB.of ⟨k1, k2, HBI.out.later hbw3, HPI.out.later hbw3⟩ (Below.refl _ _) : RgB w3 b1 b2 Ab Ap nb cb ns cp kf wrg wrg w3)
      have zz3 := hbw3.size
      clear d0 d1 d2 d3 g2 g3 k1 k2 hb3
      gi_wp2
      have en := enters_of Try.func82 (by kernel_rfl) rfl
      refine wpIn_rangeS (gf := 82) (fst := #[]) (lb := #[.pointer (some ⟨b1, 0, none⟩), .pointer (some ⟨b2, 0, none⟩)]) rfl en (sawings1_c b1 b2 Ab Ap nb cb ns cp kf wrg wrg bs ms ps OK.out ⟨hw0, hw8⟩) rfl
        (fun b k W => Below w3.heap.size w3 W ∧ Hid (∀ x ∈ T.take k, eqI x.of ls = false))
        (fun c W => c = .ret ∧ Hid ((T.any fun x => eqI x.of ls) = true) ∧ Below w.heap.size w W ∧ W.cell? ⟨w.heap.size + 1 + 1, 0, none⟩ = some (.bool true) ∧ W.cell? ⟨w.heap.size + 1 + 1 + 1, 0, none⟩ = some (.int .i64 0)) ?hI ?hIx ?hmem ?h0 ?hround ?hdone ?hstop
      case hI =>
        rintro b k W W' hb ⟨a1, a2⟩ ht
        exact ⟨ht.below (Nat.le_refl _) (by omega) a1.size a1, a2⟩
      case hIx =>
        rintro c W W' ⟨rfl, a0, a1, a2, a3⟩ ht
        exact ⟨rfl, a0, ht.below (by omega) a1.size a1, ht.cell a2, ht.cell a3⟩
      case hmem =>
        rintro b k W hb ⟨h, -⟩
        exact (R3.out.later h).mem (HBI.out.later hbw3) (HPI.out.later hbw3)
      case h0 => exact fun b W hb h => ⟨h, Lib.hid (by simp)⟩
      case hround =>
        rintro l b k x W hl hb hx ⟨a1, a2⟩ hat
        rw [HT.out] at hx
        have hxm := List.mem_of_getElem? hx
        have hxl := swA_of_len (x := x) (bs := bs) (ps := ps) (kf := kf) (wr := wrg) (by rw [HT.out]; exact hxm)
        rw [HPL.out] at hxl
        have HXM := Lib.hid hxm
        have HX := Lib.hid hx
        have A1 := Lib.hid a1
        have AT := Lib.hid hat
        clear a1 hat hx hxm
        gi_wp2
        refine ⟨KeepsFrom.refl _ _, KeepC.refl _ _, fun W2 ht => ?_⟩
        have B1 : Below w3.heap.size w3 W2 := ht.below (Nat.le_refl _) A1.out.size A1.out
        obtain ⟨A1', c1', A2', c2', A3', c3', hbk, -, -, ⟨hI1, -⟩, -⟩ := (AT.out.tame ht).ex
        rw [hxl] at hI1 hbk
        have hbw : Below w.heap.size w W2 := hbw3.trans (B1.mono zz3)
        have heq := fun V (hV : Below W2.heap.size W2 V) => equal_c A1' As ns ns c1' cs x.of ls V h4 h4 (hI1.later hV) (HSI.out.later (hbw.trans (hV.mono hbw.size)))
        obtain ⟨q, hq⟩ : ∃ q, eqI x.of ls = q := ⟨_, rfl⟩
        rw [hq] at heq
        have HQ := Lib.hid hq
        replace heq := Lib.hid heq
        have cb1 := hbk.cell
        have hlb := hbk.lt
        have c1 := (B1.cell (p := ⟨w.heap.size + 1, 0, none⟩) (by show w.heap.size + 1 < _; omega)).trans D1
        have c2 := (B1.cell (p := ⟨w.heap.size + 1 + 1, 0, none⟩) (by show w.heap.size + 1 + 1 < _; omega)).trans D2
        have c3 := (B1.cell (p := ⟨w.heap.size + 1 + 1 + 1, 0, none⟩) (by show w.heap.size + 1 + 1 + 1 < _; omega)).trans D3
        have e2 := (B1.frozen (p := ⟨w.heap.size + 1 + 1, 0, none⟩) (by show w.heap.size + 1 + 1 < _; omega)).trans E2
        have e3 := (B1.frozen (p := ⟨w.heap.size + 1 + 1 + 1, 0, none⟩) (by show w.heap.size + 1 + 1 + 1 < _; omega)).trans E3
        have zB := B1.size
        have lt1 : w.heap.size + 1 < W2.heap.size := by omega
        have lt2 : w.heap.size + 1 + 1 < W2.heap.size := by omega
        have lt3 : w.heap.size + 1 + 1 + 1 < W2.heap.size := by omega
        clear ht hbk hI1 hq D1 D2 D3 E2 E3
        gi_wp2
        have hcq := fun p : Regrown => (bcell (below_regrown W2 p.d p.os)).1
        refine wpIn_region_quiet_round (by kernel_rfl) (by kernel_rfl) (by kernel_rfl) ?_
        repeat (go_big_quiet_step (((go_at_call 78; exact Calls.regrown_of (heq.out _ (below_regrown _ _ _))))))
        refine wpQuiet_nil ?_
        intro wq hq
        obtain ⟨pq, hq⟩ := hq
        have hbq : Below W2.heap.size W2 wq := by rw [hq]; exact below_regrown _ _ _
        clear hq hcq pq
        obtain ⟨hcq, hfq⟩ := bcell hbq
        have zq := hbq.size
        have hbwq : Below w3.heap.size w3 wq := B1.trans (hbq.mono (by omega))
        have hbw' : Below w.heap.size w wq := hbw.trans (hbq.mono (by omega))
        cases q
        · gi_wp2
          refine ⟨keeps_step hbq (Nat.le_refl _) (KeepsFrom.refl _ _), .of_below hbq, hbwq, Lib.hid fun y hy => ?_⟩
          rw [List.take_add_one, HX.out] at hy
          rcases List.mem_append.1 hy with hy | hy
          · exact a2.out y hy
          · simp at hy; rw [hy]; exact HQ.out
        · gi_wp2
          have c2' := (hcq _ 0 lt2).trans c2
          have c3' := (hcq _ 0 lt3).trans c3
          obtain ⟨d1, d2⟩ := two_cells (u := .bool true) (v := .int .i64 0) (by simp) c2' c3'
          exact ⟨keeps_setCell (keeps_setCell (keeps_step hbq (Nat.le_refl _) (KeepsFrom.refl _ _)) _ _) _ _, rfl, Lib.hid (List.any_eq_true.2 ⟨x, HXM.out, HQ.out⟩), by (repeat first | with_reducible assumption | with_reducible exact Below.refl _ _ | (with_reducible refine Below.alloc ?_ ?side _; case side => (first | omega | (with_reducible exact Below.size (by assumption)) | (simp; done) | (simp; omega))) | (with_reducible refine Below.setCell ?_ ?side _; case side => (first | omega | (with_reducible exact Below.size (by assumption)) | (simp; done) | (simp; omega))) | with_reducible refine Below.drew ?_ | with_reducible refine below_drewN ?_ _ | (with_reducible refine below_step (by assumption) ?side ?_; case side => (first | omega | (with_reducible exact Below.size (by assumption)) | (simp; done) | (simp; omega)))), d1, d2⟩
      case hdone =>
        rintro D b W hD hb ⟨a1, a2⟩ hK
        rw [HT.out, List.take_length] at a2
        have hF : (T.any fun x => eqI x.of ls) = false := by rw [List.any_eq_false]; intro y hy; rw [a2.out y hy]; simp
        have HF := Lib.hid hF
        have c2 := (a1.cell (p := ⟨w.heap.size + 1 + 1, 0, none⟩) (by show w.heap.size + 1 + 1 < _; omega)).trans D2
        have c3 := (a1.cell (p := ⟨w.heap.size + 1 + 1 + 1, 0, none⟩) (by show w.heap.size + 1 + 1 + 1 < _; omega)).trans D3
        have e2 := (a1.frozen (p := ⟨w.heap.size + 1 + 1, 0, none⟩) (by show w.heap.size + 1 + 1 < _; omega)).trans E2
        have e3 := (a1.frozen (p := ⟨w.heap.size + 1 + 1 + 1, 0, none⟩) (by show w.heap.size + 1 + 1 + 1 < _; omega)).trans E3
        have zz := a1.size
        have hbw : Below w.heap.size w W := hbw3.trans (a1.mono zz3)
        clear a2 hF
        gi_wp2
        rw [HF.out]
        obtain ⟨d1, d2⟩ := two_cells (u := .bool false) (v := .int .i64 0) (by simp) c2 c3
        refine leave_mark (v := .tuple #[.bool false, .int .i64 0]) (keeps_mark (B := w3.heap.size) (W := W) (by (repeat first | with_reducible assumption | with_reducible exact KeepsFrom.refl _ _ | with_reducible refine keeps_setCell ?_ _ _ | with_reducible refine keeps_alloc ?_ _ | with_reducible refine keeps_drew ?_ | with_reducible refine keeps_drewN ?_ _ | with_reducible refine keeps_step (by assumption) (Nat.le_refl _) ?_)) hD hK) (fun W' ht => ?_) (fun W' ht => ⟨rfl, ht.below (by omega) (by simp; omega) (by (repeat first | with_reducible assumption | with_reducible exact Below.refl _ _ | (with_reducible refine Below.alloc ?_ ?side _; case side => (first | omega | (with_reducible exact Below.size (by assumption)) | (simp; done) | (simp; omega))) | (with_reducible refine Below.setCell ?_ ?side _; case side => (first | omega | (with_reducible exact Below.size (by assumption)) | (simp; done) | (simp; omega))) | with_reducible refine Below.drew ?_ | with_reducible refine below_drewN ?_ _ | (with_reducible refine below_step (by assumption) ?side ?_; case side => (first | omega | (with_reducible exact Below.size (by assumption)) | (simp; done) | (simp; omega)))))⟩)
        have d1' := ht.cell d1
        have d2' := ht.cell d2
        simp [results, Try.results45, go_sem, d1', d2']
      case hstop =>
        rintro D c W hD ⟨rfl, a0, a1, a2, a3⟩ hK
        gi_wp2
        rw [a0.out]
        have zz := a1.size
        refine leave_mark (v := .tuple #[.bool true, .int .i64 0]) hK (fun W' ht => ?_) (fun W' ht => ⟨rfl, ht.below (by omega) (by omega) a1⟩)
        have d1' := ht.cell a2
        have d2' := ht.cell a3
        simp [results, Try.results45, go_sem, d1', d2']
    · rw [show ((ns == ns && !true) = false) by simp]
      rw [eb] at hBI
      have HBA := Lib.hid hBI
      clear HB HP HS hBl hPl hSl h3 e1 ek hBI eb ok
      go_enter Try.func45, Try.ntmps45
      go_wp2_with fail
      refine (hck.out _ (by (repeat first | with_reducible assumption | with_reducible exact Below.refl _ _ | (with_reducible refine Below.alloc ?_ ?side _; case side => (first | omega | (with_reducible exact Below.size (by assumption)) | (simp; done) | (simp; omega))) | (with_reducible refine Below.setCell ?_ ?side _; case side => (first | omega | (with_reducible exact Below.size (by assumption)) | (simp; done) | (simp; omega))) | with_reducible refine Below.drew ?_ | with_reducible refine below_drewN ?_ _ | (with_reducible refine below_step (by assumption) ?side ?_; case side => (first | omega | (with_reducible exact Below.size (by assumption)) | (simp; done) | (simp; omega)))))).mono ?_
      (rintro e w1 ⟨rfl, hb1⟩; obtain ⟨hc1, hf1⟩ := bcell hb1; have zs1 := hb1.size; (try simp at zs1); have n1_0 : w.heap.size < w1.heap.size := (by omega); have n1_1 : w.heap.size + 1 < w1.heap.size := (by omega); have n1_2 : w.heap.size + 2 < w1.heap.size := (by omega); have n1_3 : w.heap.size + 3 < w1.heap.size := (by omega))
      have P0 := fun i => (hc1 (w.heap.size) i (by first | omega | (simp; done) | (simp; omega))).trans ((al4_0 rfl).2.1 i)
      have P1 := (hc1 (w.heap.size + 1) 0 (by first | omega | (simp; done) | (simp; omega))).trans ((al4_1 rfl).2.1 0)
      have P2 := (hc1 (w.heap.size + 1 + 1) 0 (by first | omega | (simp; done) | (simp; omega))).trans ((al4_2 rfl).2.1 0)
      have P3 := (hc1 (w.heap.size + 1 + 1 + 1) 0 (by first | omega | (simp; done) | (simp; omega))).trans ((al4_3 rfl).2.1 0)
      have G2 := (hf1 (w.heap.size + 1 + 1) 0 (by first | omega | (simp; done) | (simp; omega))).trans ((al4_2 rfl).2.2 0)
      have G3 := (hf1 (w.heap.size + 1 + 1 + 1) 0 (by first | omega | (simp; done) | (simp; omega))).trans ((al4_3 rfl).2.2 0)
      have hbw1 : Below w.heap.size w w1 := by (repeat first | with_reducible assumption | with_reducible exact Below.refl _ _ | (with_reducible refine Below.alloc ?_ ?side _; case side => (first | omega | (with_reducible exact Below.size (by assumption)) | (simp; done) | (simp; omega))) | (with_reducible refine Below.setCell ?_ ?side _; case side => (first | omega | (with_reducible exact Below.size (by assumption)) | (simp; done) | (simp; omega))) | with_reducible refine Below.drew ?_ | with_reducible refine below_drewN ?_ _ | (with_reducible refine below_step (by assumption) ?side ?_; case side => (first | omega | (with_reducible exact Below.size (by assumption)) | (simp; done) | (simp; omega))))
      have zz1 := hbw1.size
      clear hc1 hf1
      go_wp2_with fail
      refine (containsFunc_c As ns cs _ #[] #[.pointer (some ⟨w.heap.size, 0, none⟩)] ls (fun k => !wi (iAt ls k) 0 ((nb : Int) - 1)) _ h4 (HSI.out.later hbw1) en77 (fun k hk w' hb => ?_)).mono ?_
      · have := fits1_c Ab Ap nb cb ns cp w.heap.size kf wrg (iAt ls k) w' h1 h2 (fun i => (hb.cell (p := ⟨w.heap.size, i, none⟩) (by show w.heap.size < _; omega)).trans (P0 i))
        simpa using this
      rintro e w2 ⟨rfl, hb2⟩
      have d2 := (hb2.cell (p := ⟨w.heap.size + 1 + 1, 0, none⟩) (by show w.heap.size + 1 + 1 < _; omega)).trans P2
      have d3 := (hb2.cell (p := ⟨w.heap.size + 1 + 1 + 1, 0, none⟩) (by show w.heap.size + 1 + 1 + 1 < _; omega)).trans P3
      have g2 := (hb2.frozen (p := ⟨w.heap.size + 1 + 1, 0, none⟩) (by show w.heap.size + 1 + 1 < _; omega)).trans G2
      have g3 := (hb2.frozen (p := ⟨w.heap.size + 1 + 1 + 1, 0, none⟩) (by show w.heap.size + 1 + 1 + 1 < _; omega)).trans G3
      rw [← HBA.out]
      go_wp2
      obtain ⟨d1, d2⟩ := two_cells (u := .bool false) (v := .int .i64 1) (by simp) d2 d3
      exact bodyPost_ret (v := .tuple #[.bool false, .int .i64 1]) (by simp [results, Try.results45, go_sem, d1, d2]) rfl ⟨rfl, by (repeat first | with_reducible assumption | with_reducible exact Below.refl _ _ | (with_reducible refine Below.alloc ?_ ?side _; case side => (first | omega | (with_reducible exact Below.size (by assumption)) | (simp; done) | (simp; omega))) | (with_reducible refine Below.setCell ?_ ?side _; case side => (first | omega | (with_reducible exact Below.size (by assumption)) | (simp; done) | (simp; omega))) | with_reducible refine Below.drew ?_ | with_reducible refine below_drewN ?_ _ | (with_reducible refine below_step (by assumption) ?side ?_; case side => (first | omega | (with_reducible exact Below.size (by assumption)) | (simp; done) | (simp; omega))))⟩
  · have hnB : ((ns : Int) != np) = true := by simp; omega
    rw [show ((ns == np && !badI nb ls) = false) by simp [hn]]
    replace hn := Lib.hid hn
    clear HB HP HS hBl hPl hSl h3 e1 ek ok
    go_enter Try.func45, Try.ntmps45
    go_wp2_with fail
    refine (hck.out _ (by (repeat first | with_reducible assumption | with_reducible exact Below.refl _ _ | (with_reducible refine Below.alloc ?_ ?side _; case side => (first | omega | (with_reducible exact Below.size (by assumption)) | (simp; done) | (simp; omega))) | (with_reducible refine Below.setCell ?_ ?side _; case side => (first | omega | (with_reducible exact Below.size (by assumption)) | (simp; done) | (simp; omega))) | with_reducible refine Below.drew ?_ | with_reducible refine below_drewN ?_ _ | (with_reducible refine below_step (by assumption) ?side ?_; case side => (first | omega | (with_reducible exact Below.size (by assumption)) | (simp; done) | (simp; omega)))))).mono ?_
    (rintro e w1 ⟨rfl, hb1⟩; obtain ⟨hc1, hf1⟩ := bcell hb1; have zs1 := hb1.size; (try simp at zs1); have n1_0 : w.heap.size < w1.heap.size := (by omega); have n1_1 : w.heap.size + 1 < w1.heap.size := (by omega); have n1_2 : w.heap.size + 2 < w1.heap.size := (by omega); have n1_3 : w.heap.size + 3 < w1.heap.size := (by omega))
    have P0 := fun i => (hc1 (w.heap.size) i (by first | omega | (simp; done) | (simp; omega))).trans ((al4_0 rfl).2.1 i)
    have P1 := (hc1 (w.heap.size + 1) 0 (by first | omega | (simp; done) | (simp; omega))).trans ((al4_1 rfl).2.1 0)
    have P2 := (hc1 (w.heap.size + 1 + 1) 0 (by first | omega | (simp; done) | (simp; omega))).trans ((al4_2 rfl).2.1 0)
    have P3 := (hc1 (w.heap.size + 1 + 1 + 1) 0 (by first | omega | (simp; done) | (simp; omega))).trans ((al4_3 rfl).2.1 0)
    have G2 := (hf1 (w.heap.size + 1 + 1) 0 (by first | omega | (simp; done) | (simp; omega))).trans ((al4_2 rfl).2.2 0)
    have G3 := (hf1 (w.heap.size + 1 + 1 + 1) 0 (by first | omega | (simp; done) | (simp; omega))).trans ((al4_3 rfl).2.2 0)
    go_wp2
    obtain ⟨d1, d2⟩ := two_cells (u := .bool false) (v := .int .i64 1) (by simp) P2 P3
    exact bodyPost_ret (v := .tuple #[.bool false, .int .i64 1]) (by simp [results, Try.results45, go_sem, d1, d2]) rfl ⟨rfl, by (repeat first | with_reducible assumption | with_reducible exact Below.refl _ _ | (with_reducible refine Below.alloc ?_ ?side _; case side => (first | omega | (with_reducible exact Below.size (by assumption)) | (simp; done) | (simp; omega))) | (with_reducible refine Below.setCell ?_ ?side _; case side => (first | omega | (with_reducible exact Below.size (by assumption)) | (simp; done) | (simp; omega))) | with_reducible refine Below.drew ?_ | with_reducible refine below_drewN ?_ _ | (with_reducible refine below_step (by assumption) ?side ?_; case side => (first | omega | (with_reducible exact Below.size (by assumption)) | (simp; done) | (simp; omega))))⟩

end Go.Proofs.Ytmopnbijfcamjaa
