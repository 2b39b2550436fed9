/- ask (layer 11): the error of a book that is asked for something; IsTruth of the specification (layer 11); Fits of the specification (layer 11); change and Fits of scrap (layer 11); Copy of the specification (layer 11): an equal book in new memory. -/
import Derived.Test.YtdhlnlmhdacblaaTs32
import Derived.Test.YtdhlnlmhdacblaaTs28
import Derived.Deep.DrawnRows
import Derived.Test.YtdhlnlmhdacblaaTs02
namespace Go.Proofs.Ytdhlnlmhdacblaa
open Go.RowKit
open Go.Sort (grow)
set_option linter.unusedVariables false
set_option linter.unusedSimpArgs false

attribute [local go_sem] Oper.semAt_some

theorem wi_true_q11 {n a b : Int} : wi_q11 n a b = true ↔ a ≤ n ∧ n ≤ b := by simp [wi_q11]
theorem okBk_of {np nl : Nat} {pl : List Sp} {ls : List Ln} {wr : Int} (hp : pl.length = np) (hl : ls.length = nl) (h : ckBk np nl pl ls wr = true) : OkBk np nl pl ls ∧ 0 ≤ wr ∧ wr ≤ 8 := by
  unfold ckBk at h
  simp only [Bool.and_eq_true, Bool.not_eq_true', Bool.or_eq_false_iff, decide_eq_false_iff_not, Bool.not_eq_false'] at h
  obtain ⟨⟨⟨h1, h2⟩, h3⟩, h4, h5⟩ := h
  have hnp : np ≤ 5 := by omega
  have hnl : nl ≤ 8 := by omega
  rw [wi_true_q11] at h3
  rw [allN_iff] at h4 h5
  refine ⟨⟨hnp, hnl, fun k => ?_, fun k => ?_⟩, h3⟩
  · by_cases hk : k < np
    · have := h4 k hk
      simp only [ckSp, Bool.not_eq_true', Bool.or_eq_false_iff, decide_eq_false_iff_not, Bool.not_eq_false', wi_true_q11] at this
      omega
    · have : spAt pl k = ⟨0, 0⟩ := by
        unfold spAt
        rw [List.getD_eq_getElem?_getD, List.getElem?_eq_none (by omega)]; rfl
      rw [this]; simp
  · by_cases hk : k < nl
    · have := h5 k hk
      simp only [ckLn, Bool.and_eq_true, wi_true_q11, decide_eq_true_eq, isEnd, isNo, Bool.not_eq_true', Bool.and_eq_false_iff, Bool.not_eq_false', bne_eq_false_iff_eq] at this
      omega
    · have : lnAt ls k = ⟨0, 0, ⟨0, 0⟩, ⟨0, 0⟩⟩ := by
        unfold lnAt
        rw [List.getD_eq_getElem?_getD, List.getElem?_eq_none (by omega)]; rfl
      rw [this]; simp

/-- the nets of all truths -/
def truthSets (np nl : Nat) (pl : List Sp) (ls : List Ln) (wrg : Int) : List Nat := netSets np nl pl ls (min wrg nl)
def askZ (np nl : Nat) (pl : List Sp) (ls : List Ln) (wrg : Int) (is : Bool) : Int :=
  bif ckBk np nl pl ls wrg then (bif is then (bif (truthSets np nl pl ls wrg).isEmpty then 3 else 0) else 1) else 110

set_option maxRecDepth 100000 in
set_option maxHeartbeats 800000 in
theorem ask_c (Ap Al : Option Addr) (np cp nl cl : Nat) (wrg : Int) (is : Bool) (pl : List Sp) (ls : List Ln) (w : World) (hp : np ≤ 40) (hl : nl ≤ 40) (HP : SpsAt w Ap np pl) (HL : LnsAt w Al nl ls) :
    Calls Try.prog 37 #[.agg #[.slice Ap np cp, .slice Al nl cl, .int .i64 wrg], .bool is] w
      fun e w' => e = .returned (.int .i64 (askZ np nl pl ls wrg is)) ∧ Below w.heap.size w w' := by
  have HPI := Lib.hid HP
  have HLI := Lib.hid HL
  cases hck : ckBk np nl pl ls wrg
  · have e0 : erB (ckBk np nl pl ls wrg) = 110 := by rw [hck]; rfl
    have e1 : askZ np nl pl ls wrg is = 110 := by simp [askZ, hck]
    rw [e1]
    clear HP HL e1 hck
    go_enter Try.func37, Try.ntmps37
    go_wp2_with (go_at_call 35; refine (check_c_q11 Ap Al np cp nl cl wrg pl ls _ hp hl (HPI.out.later (by (repeat first | with_reducible assumption | with_reducible exact Below.refl _ _ | refine below_drewN ?_ _ | refine Below.drew ?_ | refine Below.alloc ?_ (by first | omega | (with_reducible exact Below.size (by assumption)) | (simp; done) | (simp; omega)) _ | refine Below.setCell ?_ (by first | omega | (with_reducible exact Below.size (by assumption)) | (simp; done) | (simp; omega)) _ | refine below_step (by assumption) (by first | omega | (with_reducible exact Below.size (by assumption)) | (simp; done) | (simp; omega)) ?_))) (HLI.out.later (by (repeat first | with_reducible assumption | with_reducible exact Below.refl _ _ | refine below_drewN ?_ _ | refine Below.drew ?_ | refine Below.alloc ?_ (by first | omega | (with_reducible exact Below.size (by assumption)) | (simp; done) | (simp; omega)) _ | refine Below.setCell ?_ (by first | omega | (with_reducible exact Below.size (by assumption)) | (simp; done) | (simp; omega)) _ | refine below_step (by assumption) (by first | omega | (with_reducible exact Below.size (by assumption)) | (simp; done) | (simp; omega)) ?_)))).mono ?_; (rintro e w1 ⟨rfl, hb1⟩; obtain ⟨hc1, hf1⟩ := bcell hb1; have zs1 := hb1.size; (try simp at zs1); have n1_0 : w.heap.size < w1.heap.size := (by omega); have n1_1 : w.heap.size + 1 < w1.heap.size := (by omega)))
    have p1 : w1.cell? ⟨w.heap.size + 1, 0, none⟩ = some (.int .i64 0) := (hc1 _ 0 (by first | omega | (simp; done) | (simp; omega))).trans ((al2_1 rfl).2.1 0)
    exact bodyPost_ret (v := .int .i64 110) (by simp [results, Try.results37, go_sem, p1]) rfl ⟨rfl, by (repeat first | with_reducible assumption | with_reducible exact Below.refl _ _ | refine below_drewN ?_ _ | refine Below.drew ?_ | refine Below.alloc ?_ (by first | omega | (with_reducible exact Below.size (by assumption)) | (simp; done) | (simp; omega)) _ | refine Below.setCell ?_ (by first | omega | (with_reducible exact Below.size (by assumption)) | (simp; done) | (simp; omega)) _ | refine below_step (by assumption) (by first | omega | (with_reducible exact Below.size (by assumption)) | (simp; done) | (simp; omega)) ?_)⟩
  have e0 : erB (ckBk np nl pl ls wrg) = 0 := by rw [hck]; rfl
  obtain ⟨hok, hw0, hw8⟩ := okBk_of HP.1 HL.1 hck
  cases is
  · have e1 : askZ np nl pl ls wrg false = 1 := by simp [askZ, hck]
    rw [e1]
    clear HP HL e1 hck
    go_enter Try.func37, Try.ntmps37
    go_wp2_with (go_at_call 35; refine (check_c_q11 Ap Al np cp nl cl wrg pl ls _ hp hl (HPI.out.later (by (repeat first | with_reducible assumption | with_reducible exact Below.refl _ _ | refine below_drewN ?_ _ | refine Below.drew ?_ | refine Below.alloc ?_ (by first | omega | (with_reducible exact Below.size (by assumption)) | (simp; done) | (simp; omega)) _ | refine Below.setCell ?_ (by first | omega | (with_reducible exact Below.size (by assumption)) | (simp; done) | (simp; omega)) _ | refine below_step (by assumption) (by first | omega | (with_reducible exact Below.size (by assumption)) | (simp; done) | (simp; omega)) ?_))) (HLI.out.later (by (repeat first | with_reducible assumption | with_reducible exact Below.refl _ _ | refine below_drewN ?_ _ | refine Below.drew ?_ | refine Below.alloc ?_ (by first | omega | (with_reducible exact Below.size (by assumption)) | (simp; done) | (simp; omega)) _ | refine Below.setCell ?_ (by first | omega | (with_reducible exact Below.size (by assumption)) | (simp; done) | (simp; omega)) _ | refine below_step (by assumption) (by first | omega | (with_reducible exact Below.size (by assumption)) | (simp; done) | (simp; omega)) ?_)))).mono ?_; (rintro e w1 ⟨rfl, hb1⟩; obtain ⟨hc1, hf1⟩ := bcell hb1; have zs1 := hb1.size; (try simp at zs1); have n1_0 : w.heap.size < w1.heap.size := (by omega); have n1_1 : w.heap.size + 1 < w1.heap.size := (by omega)))
    have p1 : w1.cell? ⟨w.heap.size + 1, 0, none⟩ = some (.int .i64 0) := (hc1 _ 0 (by first | omega | (simp; done) | (simp; omega))).trans ((al2_1 rfl).2.1 0)
    exact bodyPost_ret (v := .int .i64 1) (by simp [results, Try.results37, go_sem, p1]) rfl ⟨rfl, by (repeat first | with_reducible assumption | with_reducible exact Below.refl _ _ | refine below_drewN ?_ _ | refine Below.drew ?_ | refine Below.alloc ?_ (by first | omega | (with_reducible exact Below.size (by assumption)) | (simp; done) | (simp; omega)) _ | refine Below.setCell ?_ (by first | omega | (with_reducible exact Below.size (by assumption)) | (simp; done) | (simp; omega)) _ | refine below_step (by assumption) (by first | omega | (with_reducible exact Below.size (by assumption)) | (simp; done) | (simp; omega)) ?_)⟩
  have e1 : askZ np nl pl ls wrg true = bif (truthSets np nl pl ls wrg).isEmpty then 3 else 0 := by simp [askZ, hck]
  rw [e1]
  have HK := Lib.hid hok
  clear HP HL e1 hck hok
  refine (callsIn_wide (n := 6)).1 (callsIn_of_wp_marks Try.func37 rfl trivial ?_ rfl)
  simp only [Try.ntmps37, List.size_toArray, List.length_cons, List.length_nil, Nat.reduceAdd, Nat.reduceSub, Array.replicate_succ, Array.replicate_zero, List.push_toArray, List.append_toArray, List.nil_append, List.cons_append]
  gi_wp2_with (refine ⟨trivial, ?_⟩; gi_at_call 35; refine callsIn_wide.2 ((check_c_q11 Ap Al np cp nl cl wrg pl ls _ hp hl (HPI.out.later (by (repeat first | with_reducible assumption | with_reducible exact Below.refl _ _ | refine below_drewN ?_ _ | refine Below.drew ?_ | refine Below.alloc ?_ (by first | omega | (with_reducible exact Below.size (by assumption)) | (simp; done) | (simp; omega)) _ | refine Below.setCell ?_ (by first | omega | (with_reducible exact Below.size (by assumption)) | (simp; done) | (simp; omega)) _ | refine below_step (by assumption) (by first | omega | (with_reducible exact Below.size (by assumption)) | (simp; done) | (simp; omega)) ?_))) (HLI.out.later (by (repeat first | with_reducible assumption | with_reducible exact Below.refl _ _ | refine below_drewN ?_ _ | refine Below.drew ?_ | refine Below.alloc ?_ (by first | omega | (with_reducible exact Below.size (by assumption)) | (simp; done) | (simp; omega)) _ | refine Below.setCell ?_ (by first | omega | (with_reducible exact Below.size (by assumption)) | (simp; done) | (simp; omega)) _ | refine below_step (by assumption) (by first | omega | (with_reducible exact Below.size (by assumption)) | (simp; done) | (simp; omega)) ?_)))).mono ?_); (rintro e w1 ⟨rfl, hb1⟩; obtain ⟨hc1, hf1⟩ := bcell hb1; have zs1 := hb1.size; (try simp at zs1); have n1_0 : w.heap.size < w1.heap.size := (by omega); have n1_1 : w.heap.size + 1 < w1.heap.size := (by omega)))
  have p1 : w1.cell? ⟨w.heap.size + 1, 0, none⟩ = some (.int .i64 0) := (hc1 _ 0 (by first | omega | (simp; done) | (simp; omega))).trans ((al2_1 rfl).2.1 0)
  have g1 : w1.frozen? ⟨w.heap.size + 1, 0, none⟩ = false := (hf1 _ 0 (by first | omega | (simp; done) | (simp; omega))).trans ((al2_1 rfl).2.2 0)
  have hbw1 : Below w.heap.size w w1 := by (repeat first | with_reducible assumption | with_reducible exact Below.refl _ _ | refine below_drewN ?_ _ | refine Below.drew ?_ | refine Below.alloc ?_ (by first | omega | (with_reducible exact Below.size (by assumption)) | (simp; done) | (simp; omega)) _ | refine Below.setCell ?_ (by first | omega | (with_reducible exact Below.size (by assumption)) | (simp; done) | (simp; omega)) _ | refine below_step (by assumption) (by first | omega | (with_reducible exact Below.size (by assumption)) | (simp; done) | (simp; omega)) ?_)
  clear hc1 hf1 hb1
  refine ⟨trivial, callsIn_wide.2 ((truths_c_q11 Ap Al np cp nl cl wrg pl ls w1 hl (HPI.out.later hbw1) (HLI.out.later hbw1)).mono ?_)⟩
  rintro e w2 ⟨b1, b2, rfl, h1, h2, hm, hb2⟩
  have HM := Lib.hid hm
  have p2 := (hb2.cell (p := ⟨w.heap.size + 1, 0, none⟩) n1_1).trans p1
  have g2 := (hb2.frozen (p := ⟨w.heap.size + 1, 0, none⟩) n1_1).trans g1
  have zs2 := hb2.size
  have hbw2 : Below w.heap.size w w2 := hbw1.trans (hb2.mono (by omega))
  have z2 := hbw2.size
  clear hm
  gi_wp2
  have en := enters_of Try.func63 (by kernel_rfl) rfl
  refine wpIn_range (gf := 63) (fst := #[]) (lb := #[.pointer (some ⟨b1, 0, none⟩), .pointer (some ⟨b2, 0, none⟩)]) rfl en (nets1_c b1 b2 Ap Al np cp nl cl wrg (min wrg nl) pl ls HK.out) ?hps
    (fun k W => k = 0 ∧ Below w.heap.size w W ∧ W.cell? ⟨w.heap.size + 1, 0, none⟩ = some (.int .i64 0) ∧ W.frozen? ⟨w.heap.size + 1, 0, none⟩ = false ∧ NetMem b1 b2 Ap Al np cp nl cl wrg (min wrg nl) pl ls W)
    (fun c W => c = .ret ∧ truthSets np nl pl ls wrg ≠ [] ∧ Below w.heap.size w W ∧ W.cell? ⟨w.heap.size + 1, 0, none⟩ = some (.int .i64 0)) ?hI ?hIx ?hmem ?h0 ?hround ?hdone ?hstop
  case hps => rintro x args W ⟨A, c, rfl, -⟩; rfl
  case hI =>
    rintro k W W' ⟨rfl, a1, a2, a3, a4⟩ ht
    exact ⟨rfl, ht.below z2 a1.size a1, ht.cell a2, ht.frozen a2 a3, a4.tame ht⟩
  case hIx =>
    rintro c W W' ⟨rfl, a0, a1, a2⟩ ht
    exact ⟨rfl, a0, ht.below z2 a1.size a1, ht.cell a2⟩
  case hmem => rintro k W ⟨_, _, _, _, h⟩; exact h
  case h0 => exact ⟨rfl, hbw2, p2, g2, HM.out⟩
  case hround =>
    rintro l k x args W hl' hx ⟨rfl, a1, a2, a3, a4⟩ ⟨A, c, rfl, hpp⟩
    have hx := Lib.hid hx
    clear a4 hpp
    gi_wp2
    refine ⟨KeepsFrom.refl _ _, fun W2 ht => ?_⟩
    have c2 := ht.cell a2
    have f2 := ht.frozen a2 a3
    have b2 := ht.below z2 a1.size a1
    clear a1 a2 a3 ht
    gi_wp2
    exact ⟨by (repeat first | with_reducible assumption | with_reducible exact KeepsFrom.refl _ _ | refine keeps_drewN ?_ _ | refine keeps_drew ?_ | refine keeps_alloc ?_ _ | refine keeps_setCell ?_ _ _ | refine keeps_step (by assumption) (Nat.le_refl _) ?_), rfl, (fun e => by have := hx.out; rw [truthSets] at e; rw [e] at this; simp at this), by (repeat first | with_reducible assumption | with_reducible exact Below.refl _ _ | refine below_drewN ?_ _ | refine Below.drew ?_ | refine Below.alloc ?_ (by first | omega | (with_reducible exact Below.size (by assumption)) | (simp; done) | (simp; omega)) _ | refine Below.setCell ?_ (by first | omega | (with_reducible exact Below.size (by assumption)) | (simp; done) | (simp; omega)) _ | refine below_step (by assumption) (by first | omega | (with_reducible exact Below.size (by assumption)) | (simp; done) | (simp; omega)) ?_), World.cell?_setCell_same _ _ _ c2⟩
  case hdone =>
    rintro D W hD ⟨h, a1, a2, a3, -⟩ hK
    have hE0 : (truthSets np nl pl ls wrg).isEmpty = true := by
      have := List.eq_nil_of_length_eq_zero h
      simpa [truthSets, List.isEmpty_iff] using this
    have hE := Lib.hid hE0
    clear hE0
    have zz := a1.size
    clear h
    gi_wp2
    rw [hE.out]
    refine leave_mark (v := .int .i64 3) (keeps_mark (B := w2.heap.size) (W := W) (by (repeat first | with_reducible assumption | with_reducible exact KeepsFrom.refl _ _ | refine keeps_drewN ?_ _ | refine keeps_drew ?_ | refine keeps_alloc ?_ _ | refine keeps_setCell ?_ _ _ | refine keeps_step (by assumption) (Nat.le_refl _) ?_)) hD hK) (fun W' ht => ?_) (fun W' ht => ⟨rfl, ht.below (by omega) (by simp; omega) (by (repeat first | with_reducible assumption | with_reducible exact Below.refl _ _ | refine below_drewN ?_ _ | refine Below.drew ?_ | refine Below.alloc ?_ (by first | omega | (with_reducible exact Below.size (by assumption)) | (simp; done) | (simp; omega)) _ | refine Below.setCell ?_ (by first | omega | (with_reducible exact Below.size (by assumption)) | (simp; done) | (simp; omega)) _ | refine below_step (by assumption) (by first | omega | (with_reducible exact Below.size (by assumption)) | (simp; done) | (simp; omega)) ?_))⟩)
    have c3 := ht.cell (World.cell?_setCell_same _ _ (.int .i64 3) a2)
    simp [results, Try.results37, go_sem, c3]
  case hstop =>
    rintro D c W hD ⟨rfl, a0, a1, a2⟩ hK
    have hE0 : (truthSets np nl pl ls wrg).isEmpty = false := by
      cases e : truthSets np nl pl ls wrg with
      | nil => exact absurd e a0
      | cons => rfl
    have hE := Lib.hid hE0
    clear hE0
    have zz := a1.size
    clear a0
    gi_wp2
    rw [hE.out]
    refine leave_mark (v := .int .i64 0) hK (fun W' ht => ?_) (fun W' ht => ⟨rfl, ht.below (by omega) (by omega) (by (repeat first | with_reducible assumption | with_reducible exact Below.refl _ _ | refine below_drewN ?_ _ | refine Below.drew ?_ | refine Below.alloc ?_ (by first | omega | (with_reducible exact Below.size (by assumption)) | (simp; done) | (simp; omega)) _ | refine Below.setCell ?_ (by first | omega | (with_reducible exact Below.size (by assumption)) | (simp; done) | (simp; omega)) _ | refine below_step (by assumption) (by first | omega | (with_reducible exact Below.size (by assumption)) | (simp; done) | (simp; omega)) ?_))⟩)
    have c3 := ht.cell a2
    simp [results, Try.results37, go_sem, c3]

end Go.Proofs.Ytdhlnlmhdacblaa

namespace Go.Proofs.Ytdhlnlmhdacblaa
open Go.RowKit
open Go.Sort (grow)
set_option linter.unusedVariables false
set_option linter.unusedSimpArgs false

def isTr (np nl nw ns : Nat) (pl : List Sp) (ls : List Ln) (wrg : Int) (ws ss : List Int) : Bool :=
  isAc nl nw ns ls ws ss && (allN np (fun p => wi_q11 (chgN ls ws ss p nl) (spAt pl p).lo (spAt pl p).hi) && decide ((wrgN ls ws nl : Int) ≤ wrg))
theorem acc_bd {np nl nw ns : Nat} {pl : List Sp} {ls : List Ln} {ws ss : List Int} (hw : ws.length = nw) (hs : ss.length = ns) (h : OkBk np nl pl ls) (ha : isAc nl nw ns ls ws ss = true) :
    nw = nl ∧ ns = nl ∧ (∀ k, 0 ≤ iAt ws k ∧ iAt ws k ≤ 999) ∧ ∀ k, 0 ≤ iAt ss k ∧ iAt ss k ≤ 999 := by
  simp only [isAc, Bool.and_eq_true, beq_iff_eq] at ha
  obtain ⟨⟨rfl, rfl⟩, h2⟩ := ha
  rw [allN_iff] at h2
  refine ⟨rfl, rfl, fun k => ?_, fun k => ?_⟩
  all_goals
    by_cases hk : k < ns
    · have h3 := h2 k hk
      have h4 := h.ln k
      simp only [acK, Bool.and_eq_true, wi_true_q11] at h3
      omega
    · first
        | (have : iAt ws k = 0 := by (unfold iAt; rw [List.getD_eq_getElem?_getD, List.getElem?_eq_none (by omega)]; rfl)
           omega)
        | (have : iAt ss k = 0 := by (unfold iAt; rw [List.getD_eq_getElem?_getD, List.getElem?_eq_none (by omega)]; rfl)
           omega)

end Go.Proofs.Ytdhlnlmhdacblaa

namespace Go.Proofs.Ytdhlnlmhdacblaa
open Go.RowKit
open Go.Sort (grow)
set_option linter.unusedVariables false
set_option linter.unusedSimpArgs false

def fitR (np nl nw ns : Nat) (pl : List Sp) (ls : List Ln) (wrg : Int) (ws ss : List Int) : Bool × Int :=
  bif ckBk np nl pl ls wrg then (bif isAc nl nw ns ls ws ss then (isTr np nl nw ns pl ls wrg ws ss, 0) else (false, 1)) else (false, 110)

end Go.Proofs.Ytdhlnlmhdacblaa

namespace Go.Proofs.Ytdhlnlmhdacblaa
open Go.RowKit
open Go.Sort (grow)
set_option linter.unusedVariables false
set_option linter.unusedSimpArgs false



end Go.Proofs.Ytdhlnlmhdacblaa

namespace Go.Proofs.Ytdhlnlmhdacblaa
open Go.RowKit
open Go.Sort (grow)
set_option linter.unusedVariables false
set_option linter.unusedSimpArgs false

attribute [local go_sem ↓] Go.wp_at_zero Go.wp_at_succ
def encL (l : Ln) : List Value := [.int .i64 l.fr, .int .i64 l.to, .int .i64 l.w.lo, .int .i64 l.w.hi, .int .i64 l.s.lo, .int .i64 l.s.hi]
theorem encL_len (p : Ln) : (encL p).length = 6 := rfl
theorem encL_one (x : Ln) : ∀ u ∈ encL x, u.oneCell' = true := by
  intro u hu; simp only [encL, List.mem_cons, List.not_mem_nil, or_false] at hu; rcases hu with rfl | rfl | rfl | rfl | rfl | rfl <;> rfl
theorem lns_iff {w : World} {A : Option Addr} {n : Nat} {xs : List Ln} : LnsAt w A n xs ↔ SlAt encL 6 ⟨0, 0, ⟨0, 0⟩, ⟨0, 0⟩⟩ w A n xs := Iff.rfl
theorem sp_info_q11 : (Try.prog.info? 29).map (fun i => (i.zero, i.size, i.bytes)) = some (some (.agg #[.int .i64 0, .int .i64 0]), 2, 16) := by kernel_rfl
theorem spE_q11 : ElemT Try.prog 45 29 2 16 := by
  obtain ⟨i0, hi0, hz0, hz1, hz2⟩ := info_parts sp_info_q11
  exact ⟨Try.underlying45, ⟨i0, _, hi0, hz0, hz1, hz2, rfl⟩, by omega, by omega⟩
theorem ln_info : (Try.prog.info? 52).map (fun i => (i.zero, i.size, i.bytes)) = some (some (.agg #[.int .i64 0, .int .i64 0, .int .i64 0, .int .i64 0, .int .i64 0, .int .i64 0]), 6, 48) := by kernel_rfl
theorem lnE : ElemT Try.prog 46 52 6 48 := by
  obtain ⟨i0, hi0, hz0, hz1, hz2⟩ := info_parts ln_info
  exact ⟨Try.underlying46, ⟨i0, _, hi0, hz0, hz1, hz2, rfl⟩, by omega, by omega⟩
theorem own_set_q11 {w : World} {base : Nat} {e : TypeId} {size : Nat} {v : Value} {n : Nat} {xs : List Value} (h : w.ownsRow base e size v n xs) {p : Addr} {u : Value} (hp : ∀ k, v.ownBlock = some k → k ≠ p.block) : (w.setCell p u).ownsRow base e size v n xs := by
  obtain ⟨h1, h2⟩ := h
  refine ⟨h1, ?_⟩
  rcases h2 with h2 | ⟨g, cap, cur, hv, hg, hh, r⟩
  · exact Or.inl h2
  · refine Or.inr ⟨g, cap, cur, hv, hg, ?_, r⟩
    subst hv
    exact (Below.heap_setCell w p u g (hp g rfl)).trans hh

theorem own_mono_q11 {w : World} {base base' : Nat} {e : TypeId} {size : Nat} {v : Value} {n : Nat} {xs : List Value} (h : w.ownsRow base e size v n xs) (hb : base' ≤ base) : w.ownsRow base' e size v n xs := by
  obtain ⟨h1, h2⟩ := h
  refine ⟨h1, ?_⟩
  rcases h2 with h2 | ⟨g, cap, cur, hv, hg, r⟩
  · exact Or.inl h2
  · exact Or.inr ⟨g, cap, cur, hv, Nat.le_trans hb hg, r⟩
theorem step_append_E_q11 {P : Program} (X : World) {α : Type} {enc : α → List Value} {d : α} {ops : Array Oper} {o : Oper} {a : Act} {K : Act → World → Prop} {Q : Exit → Act → World → Prop} {Z : Prop} (hgd : o.guard = none) (s x : Operand) (t : TypeId)
    (ho : o.op = .call { callee := .builtin .append, args := #[s, x], argTypes := #[t, t] })
    (B : Nat) (W : World) (e : TypeId) (size bytes : Nat) (E : ElemT P t e size bytes) (hs : ∀ x, (enc x).length = size) (h1 : ∀ x, ∀ u ∈ enc x, u.oneCell' = true)
    (g : Nat) (hv : a.eval s = .slice (some ⟨g, 0, none⟩) 0 0) (hown : X.ownsRow B e size (.slice (some ⟨g, 0, none⟩) 0 0) 0 [])
    (A : Option Addr) (m c : Nat) (ys : List α) (hx : a.eval x = .slice A m c) (hr : SlAt enc size d X A m ys)
    (hsz : m ≤ 100000) (hb : Below B W X) (hB : B ≤ W.heap.size)
    (h : ∀ A' c' w', Hid (w'.ownsRow B e size (.slice A' m c') m (ys.flatMap enc)) → X.grownBy w' (some g) → ((Value.slice A' m c').ownBlock = some g ∨ (Value.slice A' m c').ownBlock = some X.heap.size) → Below B W w' → K (a.put o.dst (.slice A' m c')) w') :
    if Region.wanted o (yielded ops a.tmps) = true then Oper.wp P o a X K Q else Z := by
  refine step_append_T X (d := d) hgd s x t ho B e size bytes E hs h1 _ (some g) 0 [] hv rfl hown A m c ys hx hr (by omega) (Nat.le_trans hB hb.size) ?_
  intro v' w' k1 k2 k3
  rw [Nat.zero_add, List.nil_append] at k1
  obtain ⟨A', c', rfl, -, -⟩ := SlAt.of_own (d := d) hs k1 hr.1
  exact h A' c' w' k1 k2 k3 (Below.grown hb k2 (Nat.le_trans hB hb.size) fun k hk => by cases hk; exact (hown.lt g rfl).1)

/-- a book that the call itself has made -/
structure BookOwn (base np nl : Nat) (A1 A2 : Option Addr) (c1 c2 : Nat) (pl : List Sp) (ls : List Ln) (w : World) : Prop where
  hp : w.ownsRow base 29 2 (.slice A1 np c1) np (pl.flatMap encS)
  hl : w.ownsRow base 52 6 (.slice A2 nl c2) nl (ls.flatMap encL)
  ne : ∀ k, (Value.slice A1 np c1).ownBlock = some k → (Value.slice A2 nl c2).ownBlock = some k → False

set_option maxRecDepth 100000 in
set_option maxHeartbeats 3200000 in
theorem Copy_c_q11 (Ap Al : Option Addr) (np cp nl cl : Nat) (wrg : Int) (pl : List Sp) (ls : List Ln) (w : World) (hp : np ≤ 40) (hl : nl ≤ 40) (HP : SpsAt w Ap np pl) (HL : LnsAt w Al nl ls) :
    Calls Try.prog 43 #[.agg #[.slice Ap np cp, .slice Al nl cl, .int .i64 wrg]] w
      fun e w' => ∃ A1 c1 A2 c2, e = .returned (.agg #[.slice A1 np c1, .slice A2 nl c2, .int .i64 wrg]) ∧ BookOwn w.heap.size np nl A1 A2 c1 c2 pl ls w' ∧ Below w.heap.size w w' := by
  have HPI := Lib.hid HP
  have HLI := Lib.hid HL
  clear HP HL
  go_enter Try.func43, Try.ntmps43
  go_wp2
  go_name_world W hW
  obtain ⟨hB, hz⟩ := al3 hW
  obtain ⟨l_0, q_0, f_0⟩ := al3_0 hW
  obtain ⟨l_1, q_1, f_1⟩ := al3_1 hW
  obtain ⟨l_2, q_2, f_2⟩ := al3_2 hW
  have HZ := Lib.hid hz
  have zs := hB.size
  clear hW hz
  go_region_held3 (fun w' => w'.cell? ⟨w.heap.size, 0, none⟩ = some (.slice Ap np cp) ∧ w'.cell? ⟨w.heap.size, 1, none⟩ = some (.slice Al nl cl))
    (first | exact ⟨q_0 0, q_0 1⟩ | exact ⟨(hb12.cell (p := ⟨w.heap.size, 0, none⟩) l_0).trans (q_0 0), (hb12.cell (p := ⟨w.heap.size, 1, none⟩) l_0).trans (q_0 1)⟩ | exact ⟨(hb8.cell (p := ⟨w.heap.size, 0, none⟩) l_0).trans (q_0 0), (hb8.cell (p := ⟨w.heap.size, 1, none⟩) l_0).trans (q_0 1)⟩ | (refine ⟨?_, ?_⟩ <;> (repeat first | exact (hb12.cell (p := ⟨w.heap.size, 0, none⟩) l_0).trans (q_0 0) | exact (hb12.cell (p := ⟨w.heap.size, 1, none⟩) l_0).trans (q_0 1) | refine (World.cell?_setCell_other _ _ _ _ (by simp)).trans ?_); done) | go_keep)
    (first
      | ((refine step_append_E_q11 _ (d := (⟨0, 0⟩ : Sp)) rfl (.tmp 5) (.tmp 7) _ rfl W.heap.size W _ 2 16 spE_q11 encS_len encS_one _ (by rfl) ?ow Ap np cp pl (by rfl) ?sl (by omega) ?bl (Nat.le_refl _) ?_); (case ow => (repeat first | with_reducible refine World.ownsRow.drew ?_ | exact own_empty (Nat.le_refl _) rfl | exact own_empty (by omega) rfl | exact own_empty (by first | omega | (simp; done) | (simp; omega)) (by simp) | with_reducible refine World.ownsRow.alloc ?_ _ | (refine World.ownsRow.kept ?_ hg8 (.inr (by (simp [Value.ownBlock] <;> omega)))))); (case bl => (repeat first | with_reducible assumption | with_reducible exact Below.refl _ _ | (with_reducible refine Below.alloc ?_ ?side _; case side => (first | omega | (with_reducible exact Below.size (by assumption)) | (simp; done) | (simp; omega))) | (with_reducible refine Below.setCell ?_ ?side _; case side => (first | omega | (with_reducible exact Below.size (by assumption)) | (simp; done) | (simp; omega))) | with_reducible refine Below.drew ?_ | with_reducible refine below_drewN ?_ _ | (with_reducible refine below_step (by assumption) ?side ?_; case side => (first | omega | (with_reducible exact Below.size (by assumption)) | (simp; done) | (simp; omega))))); (case sl => exact sps_iff.1 (HPI.out.later (by (repeat first | with_reducible assumption | with_reducible exact Below.refl _ _ | (with_reducible refine Below.alloc ?_ ?side _; case side => (first | omega | (with_reducible exact Below.size (by assumption)) | (simp; done) | (simp; omega))) | (with_reducible refine Below.setCell ?_ ?side _; case side => (first | omega | (with_reducible exact Below.size (by assumption)) | (simp; done) | (simp; omega))) | with_reducible refine Below.drew ?_ | with_reducible refine below_drewN ?_ _ | (with_reducible refine below_step (by assumption) ?side ?_; case side => (first | omega | (with_reducible exact Below.size (by assumption)) | (simp; done) | (simp; omega))))))); intro A8 C8 w8 ho8 hg8 ha8 hb8; have z8 := hg8.size; (try simp at z8); have m8 : w.heap.size + 1 + 1 < w8.heap.size := (by omega); have c8_0 := (hb8.cell (p := ⟨w.heap.size + 1 + 1, 0, none⟩) l_2).trans (q_2 0); have c8_1 := (hb8.cell (p := ⟨w.heap.size + 1 + 1, 1, none⟩) l_2).trans (q_2 1); have c8_2 := (hb8.cell (p := ⟨w.heap.size + 1 + 1, 2, none⟩) l_2).trans (q_2 2); have f8 := fun i => (hb8.frozen (p := ⟨w.heap.size + 1 + 1, i, none⟩) l_2).trans (f_2 i))
      | ((refine step_append_E_q11 _ (d := (⟨0, 0, ⟨0, 0⟩, ⟨0, 0⟩⟩ : Ln)) rfl (.tmp 9) (.tmp 11) _ rfl W.heap.size W _ 6 48 lnE encL_len encL_one _ (by rfl) ?ow Al nl cl ls (by rfl) ?sl (by omega) ?bl (Nat.le_refl _) ?_); (case ow => (repeat first | with_reducible refine World.ownsRow.drew ?_ | exact own_empty (Nat.le_refl _) rfl | exact own_empty (by omega) rfl | exact own_empty (by first | omega | (simp; done) | (simp; omega)) (by simp) | with_reducible refine World.ownsRow.alloc ?_ _ | (refine World.ownsRow.kept ?_ hg8 (.inr (by (simp [Value.ownBlock] <;> omega)))))); (case bl => (repeat first | with_reducible assumption | with_reducible exact Below.refl _ _ | (with_reducible refine Below.alloc ?_ ?side _; case side => (first | omega | (with_reducible exact Below.size (by assumption)) | (simp; done) | (simp; omega))) | (with_reducible refine Below.setCell ?_ ?side _; case side => (first | omega | (with_reducible exact Below.size (by assumption)) | (simp; done) | (simp; omega))) | with_reducible refine Below.drew ?_ | with_reducible refine below_drewN ?_ _ | (with_reducible refine below_step (by assumption) ?side ?_; case side => (first | omega | (with_reducible exact Below.size (by assumption)) | (simp; done) | (simp; omega))))); (case sl => exact lns_iff.1 (HLI.out.later (by (repeat first | with_reducible assumption | with_reducible exact Below.refl _ _ | (with_reducible refine Below.alloc ?_ ?side _; case side => (first | omega | (with_reducible exact Below.size (by assumption)) | (simp; done) | (simp; omega))) | (with_reducible refine Below.setCell ?_ ?side _; case side => (first | omega | (with_reducible exact Below.size (by assumption)) | (simp; done) | (simp; omega))) | with_reducible refine Below.drew ?_ | with_reducible refine below_drewN ?_ _ | (with_reducible refine below_step (by assumption) ?side ?_; case side => (first | omega | (with_reducible exact Below.size (by assumption)) | (simp; done) | (simp; omega))))))); intro A12 C12 w12 ho12 hg12 ha12 hb12; have z12 := hg12.size; (try simp at z12); have m12 : w.heap.size + 1 + 1 < w12.heap.size := (by omega); have c12_0 := (hb12.cell (p := ⟨w.heap.size + 1 + 1, 0, none⟩) l_2).trans (q_2 0); have c12_1 := (hb12.cell (p := ⟨w.heap.size + 1 + 1, 1, none⟩) l_2).trans (q_2 1); have c12_2 := (hb12.cell (p := ⟨w.heap.size + 1 + 1, 2, none⟩) l_2).trans (q_2 2); have f12 := fun i => (hb12.frozen (p := ⟨w.heap.size + 1 + 1, i, none⟩) l_2).trans (f_2 i)))
  all_goals
    have NE : ∀ k, (Value.slice A8 np C8).ownBlock = some k → (Value.slice A12 nl C12).ownBlock = some k → False := by
      intro k h1 h2
      have a1 := (ho8.out.lt k h1).2
      rcases ha8 with h | h <;> rcases ha12 with h' | h' <;> (rw [h1] at h; rw [h2] at h'; simp at h h' <;> omega)
    have K8 : Hid (w12.ownsRow W.heap.size 29 2 (.slice A8 np C8) np (pl.flatMap encS)) := by
      first
        | refine ho8.out.kept hg12 (.inr fun e => ?_)
        | refine (ho8.out.alloc _).kept hg12 (.inr fun e => ?_)
      have a1 := (ho8.out.lt _ e).2
      rcases ha8 with h | h <;> (rw [e] at h; simp at h <;> omega)
    have NE8 := Lib.hid NE
    clear NE ha8 ha12 hg8 hg12 c8_0 c8_1 c8_2 f8
    have p1 := fun i => (hb12.cell (p := ⟨w.heap.size + 1, i, none⟩) l_1).trans (q_1 i)
    have g1 := fun i => (hb12.frozen (p := ⟨w.heap.size + 1, i, none⟩) l_1).trans (f_1 i)
    have n1 : w.heap.size + 1 < w12.heap.size := by omega
    go_wp2
    refine bodyPost_ret (v := .agg #[.slice A8 np C8, .slice A12 nl C12, .int .i64 wrg]) ?_ rfl ⟨A8, C8, A12, C12, rfl, ⟨?_, ?_, NE8.out⟩, ?_⟩
    · simp [results, Try.results43, go_sem, p1]
    · refine own_mono_q11 ?_ zs
      repeat first | with_reducible exact K8.out | refine own_set_q11 ?_ (fun k hk => by have := (K8.out.lt k hk).1; simp; omega)
    · refine own_mono_q11 ?_ zs
      repeat first | with_reducible exact ho12.out | refine own_set_q11 ?_ (fun k hk => by have := (ho12.out.lt k hk).1; simp; omega)
    · (repeat first | with_reducible assumption | with_reducible exact Below.refl _ _ | (with_reducible refine Below.alloc ?_ ?side _; case side => (first | omega | (with_reducible exact Below.size (by assumption)) | (simp; done) | (simp; omega))) | (with_reducible refine Below.setCell ?_ ?side _; case side => (first | omega | (with_reducible exact Below.size (by assumption)) | (simp; done) | (simp; omega))) | with_reducible refine Below.drew ?_ | with_reducible refine below_drewN ?_ _ | (with_reducible refine below_step (by assumption) ?side ?_; case side => (first | omega | (with_reducible exact Below.size (by assumption)) | (simp; done) | (simp; omega))))

end Go.Proofs.Ytdhlnlmhdacblaa
