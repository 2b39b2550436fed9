/- ask (layer 11): the error of a book that is asked for something. -/
import Derived.Test.YtdhlnlmhdacblaaSj37
namespace Go.Proofs.Ytdhlnlmhdacblaa
open Go.RowKit
open Go.Sort (grow)
set_option linter.unusedVariables false
set_option linter.unusedSimpArgs false

attribute [local go_sem] Oper.semAt_some

theorem wi_true_q11 {n a b : Int} : wi_q11 n a b = true ↔ a ≤ n ∧ n ≤ b := by simp [wi_q11]
theorem okBk_of {np nl : Nat} {pl : List Sp} {ls : List Ln} {wr : Int} (hp : pl.length = np) (hl : ls.length = nl) (h : ckBk np nl pl ls wr = true) : OkBk np nl pl ls ∧ 0 ≤ wr ∧ wr ≤ 8 := by
  unfold ckBk at h
  simp only [Bool.and_eq_true, Bool.not_eq_true', Bool.or_eq_false_iff, decide_eq_false_iff_not, Bool.not_eq_false'] at h
  obtain ⟨⟨⟨h1, h2⟩, h3⟩, h4, h5⟩ := h
  have hnp : np ≤ 5 := by omega
  have hnl : nl ≤ 8 := by omega
  rw [wi_true_q11] at h3
  rw [allN_iff] at h4 h5
  refine ⟨⟨hnp, hnl, fun k => ?_, fun k => ?_⟩, h3⟩
  · by_cases hk : k < np
    · have := h4 k hk
      simp only [ckSp, Bool.not_eq_true', Bool.or_eq_false_iff, decide_eq_false_iff_not, Bool.not_eq_false', wi_true_q11] at this
      omega
    · have : spAt pl k = ⟨0, 0⟩ := by
        unfold spAt
        rw [List.getD_eq_getElem?_getD, List.getElem?_eq_none (by omega)]; rfl
      rw [this]; simp
  · by_cases hk : k < nl
    · have := h5 k hk
      simp only [ckLn, Bool.and_eq_true, wi_true_q11, decide_eq_true_eq, isEnd, isNo, Bool.not_eq_true', Bool.and_eq_false_iff, Bool.not_eq_false', bne_eq_false_iff_eq] at this
      omega
    · have : lnAt ls k = ⟨0, 0, ⟨0, 0⟩, ⟨0, 0⟩⟩ := by
        unfold lnAt
        rw [List.getD_eq_getElem?_getD, List.getElem?_eq_none (by omega)]; rfl
      rw [this]; simp

/-- the nets of all truths -/
def truthSets (np nl : Nat) (pl : List Sp) (ls : List Ln) (wrg : Int) : List Nat := netSets np nl pl ls (min wrg nl)
def askZ (np nl : Nat) (pl : List Sp) (ls : List Ln) (wrg : Int) (is : Bool) : Int :=
  bif ckBk np nl pl ls wrg then (bif is then (bif (truthSets np nl pl ls wrg).isEmpty then 3 else 0) else 1) else 110

set_option maxRecDepth 100000 in
set_option maxHeartbeats 800000 in
theorem ask_c (Ap Al : Option Addr) (np cp nl cl : Nat) (wrg : Int) (is : Bool) (pl : List Sp) (ls : List Ln) (w : World) (hp : np ≤ 40) (hl : nl ≤ 40) (HP : SpsAt w Ap np pl) (HL : LnsAt w Al nl ls) :
    Calls Try.prog 37 #[.agg #[.slice Ap np cp, .slice Al nl cl, .int .i64 wrg], .bool is] w
      fun e w' => e = .returned (.int .i64 (askZ np nl pl ls wrg is)) ∧ Below w.heap.size w w' := by
  have HPI := Lib.hid HP
  have HLI := Lib.hid HL
  cases hck : ckBk np nl pl ls wrg
  · have e0 : erB (ckBk np nl pl ls wrg) = 110 := by rw [hck]; rfl
    have e1 : askZ np nl pl ls wrg is = 110 := by simp [askZ, hck]
    rw [e1]
    clear HP HL e1 hck
    go_enter Try.func37, Try.ntmps37
    go_wp2_with (go_at_call 35; refine (check_c_q11 Ap Al np cp nl cl wrg pl ls _ hp hl (HPI.out.later (by (repeat first | with_reducible assumption | with_reducible exact Below.refl _ _ | refine below_drewN ?_ _ | refine Below.drew ?_ | refine Below.alloc ?_ (by first | omega | (with_reducible exact Below.size (by assumption)) | (simp; done) | (simp; omega)) _ | refine Below.setCell ?_ (by first | omega | (with_reducible exact Below.size (by assumption)) | (simp; done) | (simp; omega)) _ | refine below_step (by assumption) (by first | omega | (with_reducible exact Below.size (by assumption)) | (simp; done) | (simp; omega)) ?_))) (HLI.out.later (by (repeat first | with_reducible assumption | with_reducible exact Below.refl _ _ | refine below_drewN ?_ _ | refine Below.drew ?_ | refine Below.alloc ?_ (by first | omega | (with_reducible exact Below.size (by assumption)) | (simp; done) | (simp; omega)) _ | refine Below.setCell ?_ (by first | omega | (with_reducible exact Below.size (by assumption)) | (simp; done) | (simp; omega)) _ | refine below_step (by assumption) (by first | omega | (with_reducible exact Below.size (by assumption)) | (simp; done) | (simp; omega)) ?_)))).mono ?_; (rintro e w1 ⟨rfl, hb1⟩; obtain ⟨hc1, hf1⟩ := bcell hb1; have zs1 := hb1.size; (try simp at zs1); have n1_0 : w.heap.size < w1.heap.size := (by omega); have n1_1 : w.heap.size + 1 < w1.heap.size := (by omega)))
    have p1 : w1.cell? ⟨w.heap.size + 1, 0, none⟩ = some (.int .i64 0) := (hc1 _ 0 (by first | omega | (simp; done) | (simp; omega))).trans ((al2_1 rfl).2.1 0)
    exact bodyPost_ret (v := .int .i64 110) (by simp [results, Try.results37, go_sem, p1]) rfl ⟨rfl, by (repeat first | with_reducible assumption | with_reducible exact Below.refl _ _ | refine below_drewN ?_ _ | refine Below.drew ?_ | refine Below.alloc ?_ (by first | omega | (with_reducible exact Below.size (by assumption)) | (simp; done) | (simp; omega)) _ | refine Below.setCell ?_ (by first | omega | (with_reducible exact Below.size (by assumption)) | (simp; done) | (simp; omega)) _ | refine below_step (by assumption) (by first | omega | (with_reducible exact Below.size (by assumption)) | (simp; done) | (simp; omega)) ?_)⟩
  have e0 : erB (ckBk np nl pl ls wrg) = 0 := by rw [hck]; rfl
  obtain ⟨hok, hw0, hw8⟩ := okBk_of HP.1 HL.1 hck
  cases is
  · have e1 : askZ np nl pl ls wrg false = 1 := by simp [askZ, hck]
    rw [e1]
    clear HP HL e1 hck
    go_enter Try.func37, Try.ntmps37
    go_wp2_with (go_at_call 35; refine (check_c_q11 Ap Al np cp nl cl wrg pl ls _ hp hl (HPI.out.later (by (repeat first | with_reducible assumption | with_reducible exact Below.refl _ _ | refine below_drewN ?_ _ | refine Below.drew ?_ | refine Below.alloc ?_ (by first | omega | (with_reducible exact Below.size (by assumption)) | (simp; done) | (simp; omega)) _ | refine Below.setCell ?_ (by first | omega | (with_reducible exact Below.size (by assumption)) | (simp; done) | (simp; omega)) _ | refine below_step (by assumption) (by first | omega | (with_reducible exact Below.size (by assumption)) | (simp; done) | (simp; omega)) ?_))) (HLI.out.later (by (repeat first | with_reducible assumption | with_reducible exact Below.refl _ _ | refine below_drewN ?_ _ | refine Below.drew ?_ | refine Below.alloc ?_ (by first | omega | (with_reducible exact Below.size (by assumption)) | (simp; done) | (simp; omega)) _ | refine Below.setCell ?_ (by first | omega | (with_reducible exact Below.size (by assumption)) | (simp; done) | (simp; omega)) _ | refine below_step (by assumption) (by first | omega | (with_reducible exact Below.size (by assumption)) | (simp; done) | (simp; omega)) ?_)))).mono ?_; (rintro e w1 ⟨rfl, hb1⟩; obtain ⟨hc1, hf1⟩ := bcell hb1; have zs1 := hb1.size; (try simp at zs1); have n1_0 : w.heap.size < w1.heap.size := (by omega); have n1_1 : w.heap.size + 1 < w1.heap.size := (by omega)))
    have p1 : w1.cell? ⟨w.heap.size + 1, 0, none⟩ = some (.int .i64 0) := (hc1 _ 0 (by first | omega | (simp; done) | (simp; omega))).trans ((al2_1 rfl).2.1 0)
    exact bodyPost_ret (v := .int .i64 1) (by simp [results, Try.results37, go_sem, p1]) rfl ⟨rfl, by (repeat first | with_reducible assumption | with_reducible exact Below.refl _ _ | refine below_drewN ?_ _ | refine Below.drew ?_ | refine Below.alloc ?_ (by first | omega | (with_reducible exact Below.size (by assumption)) | (simp; done) | (simp; omega)) _ | refine Below.setCell ?_ (by first | omega | (with_reducible exact Below.size (by assumption)) | (simp; done) | (simp; omega)) _ | refine below_step (by assumption) (by first | omega | (with_reducible exact Below.size (by assumption)) | (simp; done) | (simp; omega)) ?_)⟩
  have e1 : askZ np nl pl ls wrg true = bif (truthSets np nl pl ls wrg).isEmpty then 3 else 0 := by simp [askZ, hck]
  rw [e1]
  have HK := Lib.hid hok
  clear HP HL e1 hck hok
  refine (callsIn_wide (n := 6)).1 (callsIn_of_wp_marks Try.func37 rfl trivial ?_ rfl)
  simp only [Try.ntmps37, List.size_toArray, List.length_cons, List.length_nil, Nat.reduceAdd, Nat.reduceSub, Array.replicate_succ, Array.replicate_zero, List.push_toArray, List.append_toArray, List.nil_append, List.cons_append]
  gi_wp2_with (refine ⟨trivial, ?_⟩; gi_at_call 35; refine callsIn_wide.2 ((check_c_q11 Ap Al np cp nl cl wrg pl ls _ hp hl (HPI.out.later (by (repeat first | with_reducible assumption | with_reducible exact Below.refl _ _ | refine below_drewN ?_ _ | refine Below.drew ?_ | refine Below.alloc ?_ (by first | omega | (with_reducible exact Below.size (by assumption)) | (simp; done) | (simp; omega)) _ | refine Below.setCell ?_ (by first | omega | (with_reducible exact Below.size (by assumption)) | (simp; done) | (simp; omega)) _ | refine below_step (by assumption) (by first | omega | (with_reducible exact Below.size (by assumption)) | (simp; done) | (simp; omega)) ?_))) (HLI.out.later (by (repeat first | with_reducible assumption | with_reducible exact Below.refl _ _ | refine below_drewN ?_ _ | refine Below.drew ?_ | refine Below.alloc ?_ (by first | omega | (with_reducible exact Below.size (by assumption)) | (simp; done) | (simp; omega)) _ | refine Below.setCell ?_ (by first | omega | (with_reducible exact Below.size (by assumption)) | (simp; done) | (simp; omega)) _ | refine below_step (by assumption) (by first | omega | (with_reducible exact Below.size (by assumption)) | (simp; done) | (simp; omega)) ?_)))).mono ?_); (rintro e w1 ⟨rfl, hb1⟩; obtain ⟨hc1, hf1⟩ := bcell hb1; have zs1 := hb1.size; (try simp at zs1); have n1_0 : w.heap.size < w1.heap.size := (by omega); have n1_1 : w.heap.size + 1 < w1.heap.size := (by omega)))
  have p1 : w1.cell? ⟨w.heap.size + 1, 0, none⟩ = some (.int .i64 0) := (hc1 _ 0 (by first | omega | (simp; done) | (simp; omega))).trans ((al2_1 rfl).2.1 0)
  have g1 : w1.frozen? ⟨w.heap.size + 1, 0, none⟩ = false := (hf1 _ 0 (by first | omega | (simp; done) | (simp; omega))).trans ((al2_1 rfl).2.2 0)
  have hbw1 : Below w.heap.size w w1 := by (repeat first | with_reducible assumption | with_reducible exact Below.refl _ _ | refine below_drewN ?_ _ | refine Below.drew ?_ | refine Below.alloc ?_ (by first | omega | (with_reducible exact Below.size (by assumption)) | (simp; done) | (simp; omega)) _ | refine Below.setCell ?_ (by first | omega | (with_reducible exact Below.size (by assumption)) | (simp; done) | (simp; omega)) _ | refine below_step (by assumption) (by first | omega | (with_reducible exact Below.size (by assumption)) | (simp; done) | (simp; omega)) ?_)
  clear hc1 hf1 hb1
  refine ⟨trivial, callsIn_wide.2 ((truths_c_q11 Ap Al np cp nl cl wrg pl ls w1 hl (HPI.out.later hbw1) (HLI.out.later hbw1)).mono ?_)⟩
  rintro e w2 ⟨b1, b2, rfl, h1, h2, hm, hb2⟩
  have HM := Lib.hid hm
  have p2 := (hb2.cell (p := ⟨w.heap.size + 1, 0, none⟩) n1_1).trans p1
  have g2 := (hb2.frozen (p := ⟨w.heap.size + 1, 0, none⟩) n1_1).trans g1
  have zs2 := hb2.size
  have hbw2 : Below w.heap.size w w2 := hbw1.trans (hb2.mono (by omega))
  have z2 := hbw2.size
  clear hm
  gi_wp2
  have en := enters_of Try.func63 (by kernel_rfl) rfl
  refine wpIn_range (gf := 63) (fst := #[]) (lb := #[.pointer (some ⟨b1, 0, none⟩), .pointer (some ⟨b2, 0, none⟩)]) rfl en (nets1_c b1 b2 Ap Al np cp nl cl wrg (min wrg nl) pl ls HK.out) ?hps
    (fun k W => k = 0 ∧ Below w.heap.size w W ∧ W.cell? ⟨w.heap.size + 1, 0, none⟩ = some (.int .i64 0) ∧ W.frozen? ⟨w.heap.size + 1, 0, none⟩ = false ∧ NetMem b1 b2 Ap Al np cp nl cl wrg (min wrg nl) pl ls W)
    (fun c W => c = .ret ∧ truthSets np nl pl ls wrg ≠ [] ∧ Below w.heap.size w W ∧ W.cell? ⟨w.heap.size + 1, 0, none⟩ = some (.int .i64 0)) ?hI ?hIx ?hmem ?h0 ?hround ?hdone ?hstop
  case hps => rintro x args W ⟨A, c, rfl, -⟩; rfl
  case hI =>
    rintro k W W' ⟨rfl, a1, a2, a3, a4⟩ ht
    exact ⟨rfl, ht.below z2 a1.size a1, ht.cell a2, ht.frozen a2 a3, a4.tame ht⟩
  case hIx =>
    rintro c W W' ⟨rfl, a0, a1, a2⟩ ht
    exact ⟨rfl, a0, ht.below z2 a1.size a1, ht.cell a2⟩
  case hmem => rintro k W ⟨_, _, _, _, h⟩; exact h
  case h0 => exact ⟨rfl, hbw2, p2, g2, HM.out⟩
  case hround =>
    rintro l k x args W hl' hx ⟨rfl, a1, a2, a3, a4⟩ ⟨A, c, rfl, hpp⟩
    have hx := Lib.hid hx
    clear a4 hpp
    gi_wp2
    refine ⟨KeepsFrom.refl _ _, fun W2 ht => ?_⟩
    have c2 := ht.cell a2
    have f2 := ht.frozen a2 a3
    have b2 := ht.below z2 a1.size a1
    clear a1 a2 a3 ht
    gi_wp2
    exact ⟨by (repeat first | with_reducible assumption | with_reducible exact KeepsFrom.refl _ _ | refine keeps_drewN ?_ _ | refine keeps_drew ?_ | refine keeps_alloc ?_ _ | refine keeps_setCell ?_ _ _ | refine keeps_step (by assumption) (Nat.le_refl _) ?_), rfl, (fun e => by have := hx.out; rw [truthSets] at e; rw [e] at this; simp at this), by (repeat first | with_reducible assumption | with_reducible exact Below.refl _ _ | refine below_drewN ?_ _ | refine Below.drew ?_ | refine Below.alloc ?_ (by first | omega | (with_reducible exact Below.size (by assumption)) | (simp; done) | (simp; omega)) _ | refine Below.setCell ?_ (by first | omega | (with_reducible exact Below.size (by assumption)) | (simp; done) | (simp; omega)) _ | refine below_step (by assumption) (by first | omega | (with_reducible exact Below.size (by assumption)) | (simp; done) | (simp; omega)) ?_), World.cell?_setCell_same _ _ _ c2⟩
  case hdone =>
    rintro D W hD ⟨h, a1, a2, a3, -⟩ hK
    have hE0 : (truthSets np nl pl ls wrg).isEmpty = true := by
      have := List.eq_nil_of_length_eq_zero h
      simpa [truthSets, List.isEmpty_iff] using this
    have hE := Lib.hid hE0
    clear hE0
    have zz := a1.size
    clear h
    gi_wp2
    rw [hE.out]
    refine leave_mark (v := .int .i64 3) (keeps_mark (B := w2.heap.size) (W := W) (by (repeat first | with_reducible assumption | with_reducible exact KeepsFrom.refl _ _ | refine keeps_drewN ?_ _ | refine keeps_drew ?_ | refine keeps_alloc ?_ _ | refine keeps_setCell ?_ _ _ | refine keeps_step (by assumption) (Nat.le_refl _) ?_)) hD hK) (fun W' ht => ?_) (fun W' ht => ⟨rfl, ht.below (by omega) (by simp; omega) (by (repeat first | with_reducible assumption | with_reducible exact Below.refl _ _ | refine below_drewN ?_ _ | refine Below.drew ?_ | refine Below.alloc ?_ (by first | omega | (with_reducible exact Below.size (by assumption)) | (simp; done) | (simp; omega)) _ | refine Below.setCell ?_ (by first | omega | (with_reducible exact Below.size (by assumption)) | (simp; done) | (simp; omega)) _ | refine below_step (by assumption) (by first | omega | (with_reducible exact Below.size (by assumption)) | (simp; done) | (simp; omega)) ?_))⟩)
    have c3 := ht.cell (World.cell?_setCell_same _ _ (.int .i64 3) a2)
    simp [results, Try.results37, go_sem, c3]
  case hstop =>
    rintro D c W hD ⟨rfl, a0, a1, a2⟩ hK
    have hE0 : (truthSets np nl pl ls wrg).isEmpty = false := by
      cases e : truthSets np nl pl ls wrg with
      | nil => exact absurd e a0
      | cons => rfl
    have hE := Lib.hid hE0
    clear hE0
    have zz := a1.size
    clear a0
    gi_wp2
    rw [hE.out]
    refine leave_mark (v := .int .i64 0) hK (fun W' ht => ?_) (fun W' ht => ⟨rfl, ht.below (by omega) (by omega) (by (repeat first | with_reducible assumption | with_reducible exact Below.refl _ _ | refine below_drewN ?_ _ | refine Below.drew ?_ | refine Below.alloc ?_ (by first | omega | (with_reducible exact Below.size (by assumption)) | (simp; done) | (simp; omega)) _ | refine Below.setCell ?_ (by first | omega | (with_reducible exact Below.size (by assumption)) | (simp; done) | (simp; omega)) _ | refine below_step (by assumption) (by first | omega | (with_reducible exact Below.size (by assumption)) | (simp; done) | (simp; omega)) ?_))⟩)
    have c3 := ht.cell a2
    simp [results, Try.results37, go_sem, c3]

end Go.Proofs.Ytdhlnlmhdacblaa
