/- ask (layer 11): the error of a book that is asked for something; IsTruth of the specification (layer 11); Fits of the specification (layer 11); change and Fits of scrap (layer 11); Cuts of nets (layer 11), in plain Lean: a net can be just if every cut can; the least and the greatest of a pipe; Fits of scrap (layer 11). -/
import Derived.Test.YtdhlnlmhdacblaaTs34
import Derived.Test.YtdhlnlmhdacblaaTs29
namespace Go.Proofs.Ytdhlnlmhdacblaa
open Go.RowKit
open Go.Sort (grow)
set_option linter.unusedVariables false
set_option linter.unusedSimpArgs false

attribute [local go_sem] Oper.semAt_some

theorem wi_true_q11 {n a b : Int} : wi_q11 n a b = true ↔ a ≤ n ∧ n ≤ b := by simp [wi_q11]
theorem okBk_of {np nl : Nat} {pl : List Sp} {ls : List Ln} {wr : Int} (hp : pl.length = np) (hl : ls.length = nl) (h : ckBk np nl pl ls wr = true) : OkBk np nl pl ls ∧ 0 ≤ wr ∧ wr ≤ 8 := by
  unfold ckBk at h
  simp only [Bool.and_eq_true, Bool.not_eq_true', Bool.or_eq_false_iff, decide_eq_false_iff_not, Bool.not_eq_false'] at h
  obtain ⟨⟨⟨h1, h2⟩, h3⟩, h4, h5⟩ := h
  have hnp : np ≤ 5 := by omega
  have hnl : nl ≤ 8 := by omega
  rw [wi_true_q11] at h3
  rw [allN_iff] at h4 h5
  refine ⟨⟨hnp, hnl, fun k => ?_, fun k => ?_⟩, h3⟩
  · by_cases hk : k < np
    · have := h4 k hk
      simp only [ckSp, Bool.not_eq_true', Bool.or_eq_false_iff, decide_eq_false_iff_not, Bool.not_eq_false', wi_true_q11] at this
      omega
    · have : spAt pl k = ⟨0, 0⟩ := by
        unfold spAt
        rw [List.getD_eq_getElem?_getD, List.getElem?_eq_none (by omega)]; rfl
      rw [this]; simp
  · by_cases hk : k < nl
    · have := h5 k hk
      simp only [ckLn, Bool.and_eq_true, wi_true_q11, decide_eq_true_eq, isEnd, isNo, Bool.not_eq_true', Bool.and_eq_false_iff, Bool.not_eq_false', bne_eq_false_iff_eq] at this
      omega
    · have : lnAt ls k = ⟨0, 0, ⟨0, 0⟩, ⟨0, 0⟩⟩ := by
        unfold lnAt
        rw [List.getD_eq_getElem?_getD, List.getElem?_eq_none (by omega)]; rfl
      rw [this]; simp

/-- the nets of all truths -/
def truthSets (np nl : Nat) (pl : List Sp) (ls : List Ln) (wrg : Int) : List Nat := netSets np nl pl ls (min wrg nl)
def askZ (np nl : Nat) (pl : List Sp) (ls : List Ln) (wrg : Int) (is : Bool) : Int :=
  bif ckBk np nl pl ls wrg then (bif is then (bif (truthSets np nl pl ls wrg).isEmpty then 3 else 0) else 1) else 110

set_option maxRecDepth 100000 in
set_option maxHeartbeats 800000 in
theorem ask_c (Ap Al : Option Addr) (np cp nl cl : Nat) (wrg : Int) (is : Bool) (pl : List Sp) (ls : List Ln) (w : World) (hp : np ≤ 40) (hl : nl ≤ 40) (HP : SpsAt w Ap np pl) (HL : LnsAt w Al nl ls) :
    Calls Try.prog 37 #[.agg #[.slice Ap np cp, .slice Al nl cl, .int .i64 wrg], .bool is] w
      fun e w' => e = .returned (.int .i64 (askZ np nl pl ls wrg is)) ∧ Below w.heap.size w w' := by
  have HPI := Lib.hid HP
  have HLI := Lib.hid HL
  cases hck : ckBk np nl pl ls wrg
  · have e0 : erB (ckBk np nl pl ls wrg) = 110 := by rw [hck]; rfl
    have e1 : askZ np nl pl ls wrg is = 110 := by simp [askZ, hck]
    rw [e1]
    clear HP HL e1 hck
    go_enter Try.func37, Try.ntmps37
    go_wp2_with (go_at_call 35; refine (check_c_q11 Ap Al np cp nl cl wrg pl ls _ hp hl (HPI.out.later (by (repeat first | with_reducible assumption | with_reducible exact Below.refl _ _ | refine below_drewN ?_ _ | refine Below.drew ?_ | refine Below.alloc ?_ (by first | omega | (with_reducible exact Below.size (by assumption)) | (simp; done) | (simp; omega)) _ | refine Below.setCell ?_ (by first | omega | (with_reducible exact Below.size (by assumption)) | (simp; done) | (simp; omega)) _ | refine below_step (by assumption) (by first | omega | (with_reducible exact Below.size (by assumption)) | (simp; done) | (simp; omega)) ?_))) (HLI.out.later (by (repeat first | with_reducible assumption | with_reducible exact Below.refl _ _ | refine below_drewN ?_ _ | refine Below.drew ?_ | refine Below.alloc ?_ (by first | omega | (with_reducible exact Below.size (by assumption)) | (simp; done) | (simp; omega)) _ | refine Below.setCell ?_ (by first | omega | (with_reducible exact Below.size (by assumption)) | (simp; done) | (simp; omega)) _ | refine below_step (by assumption) (by first | omega | (with_reducible exact Below.size (by assumption)) | (simp; done) | (simp; omega)) ?_)))).mono ?_; (rintro e w1 ⟨rfl, hb1⟩; obtain ⟨hc1, hf1⟩ := bcell hb1; have zs1 := hb1.size; (try simp at zs1); have n1_0 : w.heap.size < w1.heap.size := (by omega); have n1_1 : w.heap.size + 1 < w1.heap.size := (by omega)))
    have p1 : w1.cell? ⟨w.heap.size + 1, 0, none⟩ = some (.int .i64 0) := (hc1 _ 0 (by first | omega | (simp; done) | (simp; omega))).trans ((al2_1 rfl).2.1 0)
    exact bodyPost_ret (v := .int .i64 110) (by simp [results, Try.results37, go_sem, p1]) rfl ⟨rfl, by (repeat first | with_reducible assumption | with_reducible exact Below.refl _ _ | refine below_drewN ?_ _ | refine Below.drew ?_ | refine Below.alloc ?_ (by first | omega | (with_reducible exact Below.size (by assumption)) | (simp; done) | (simp; omega)) _ | refine Below.setCell ?_ (by first | omega | (with_reducible exact Below.size (by assumption)) | (simp; done) | (simp; omega)) _ | refine below_step (by assumption) (by first | omega | (with_reducible exact Below.size (by assumption)) | (simp; done) | (simp; omega)) ?_)⟩
  have e0 : erB (ckBk np nl pl ls wrg) = 0 := by rw [hck]; rfl
  obtain ⟨hok, hw0, hw8⟩ := okBk_of HP.1 HL.1 hck
  cases is
  · have e1 : askZ np nl pl ls wrg false = 1 := by simp [askZ, hck]
    rw [e1]
    clear HP HL e1 hck
    go_enter Try.func37, Try.ntmps37
    go_wp2_with (go_at_call 35; refine (check_c_q11 Ap Al np cp nl cl wrg pl ls _ hp hl (HPI.out.later (by (repeat first | with_reducible assumption | with_reducible exact Below.refl _ _ | refine below_drewN ?_ _ | refine Below.drew ?_ | refine Below.alloc ?_ (by first | omega | (with_reducible exact Below.size (by assumption)) | (simp; done) | (simp; omega)) _ | refine Below.setCell ?_ (by first | omega | (with_reducible exact Below.size (by assumption)) | (simp; done) | (simp; omega)) _ | refine below_step (by assumption) (by first | omega | (with_reducible exact Below.size (by assumption)) | (simp; done) | (simp; omega)) ?_))) (HLI.out.later (by (repeat first | with_reducible assumption | with_reducible exact Below.refl _ _ | refine below_drewN ?_ _ | refine Below.drew ?_ | refine Below.alloc ?_ (by first | omega | (with_reducible exact Below.size (by assumption)) | (simp; done) | (simp; omega)) _ | refine Below.setCell ?_ (by first | omega | (with_reducible exact Below.size (by assumption)) | (simp; done) | (simp; omega)) _ | refine below_step (by assumption) (by first | omega | (with_reducible exact Below.size (by assumption)) | (simp; done) | (simp; omega)) ?_)))).mono ?_; (rintro e w1 ⟨rfl, hb1⟩; obtain ⟨hc1, hf1⟩ := bcell hb1; have zs1 := hb1.size; (try simp at zs1); have n1_0 : w.heap.size < w1.heap.size := (by omega); have n1_1 : w.heap.size + 1 < w1.heap.size := (by omega)))
    have p1 : w1.cell? ⟨w.heap.size + 1, 0, none⟩ = some (.int .i64 0) := (hc1 _ 0 (by first | omega | (simp; done) | (simp; omega))).trans ((al2_1 rfl).2.1 0)
    exact bodyPost_ret (v := .int .i64 1) (by simp [results, Try.results37, go_sem, p1]) rfl ⟨rfl, by (repeat first | with_reducible assumption | with_reducible exact Below.refl _ _ | refine below_drewN ?_ _ | refine Below.drew ?_ | refine Below.alloc ?_ (by first | omega | (with_reducible exact Below.size (by assumption)) | (simp; done) | (simp; omega)) _ | refine Below.setCell ?_ (by first | omega | (with_reducible exact Below.size (by assumption)) | (simp; done) | (simp; omega)) _ | refine below_step (by assumption) (by first | omega | (with_reducible exact Below.size (by assumption)) | (simp; done) | (simp; omega)) ?_)⟩
  have e1 : askZ np nl pl ls wrg true = bif (truthSets np nl pl ls wrg).isEmpty then 3 else 0 := by simp [askZ, hck]
  rw [e1]
  have HK := Lib.hid hok
  clear HP HL e1 hck hok
  refine (callsIn_wide (n := 6)).1 (callsIn_of_wp_marks Try.func37 rfl trivial ?_ rfl)
  simp only [Try.ntmps37, List.size_toArray, List.length_cons, List.length_nil, Nat.reduceAdd, Nat.reduceSub, Array.replicate_succ, Array.replicate_zero, List.push_toArray, List.append_toArray, List.nil_append, List.cons_append]
  gi_wp2_with (refine ⟨trivial, ?_⟩; gi_at_call 35; refine callsIn_wide.2 ((check_c_q11 Ap Al np cp nl cl wrg pl ls _ hp hl (HPI.out.later (by (repeat first | with_reducible assumption | with_reducible exact Below.refl _ _ | refine below_drewN ?_ _ | refine Below.drew ?_ | refine Below.alloc ?_ (by first | omega | (with_reducible exact Below.size (by assumption)) | (simp; done) | (simp; omega)) _ | refine Below.setCell ?_ (by first | omega | (with_reducible exact Below.size (by assumption)) | (simp; done) | (simp; omega)) _ | refine below_step (by assumption) (by first | omega | (with_reducible exact Below.size (by assumption)) | (simp; done) | (simp; omega)) ?_))) (HLI.out.later (by (repeat first | with_reducible assumption | with_reducible exact Below.refl _ _ | refine below_drewN ?_ _ | refine Below.drew ?_ | refine Below.alloc ?_ (by first | omega | (with_reducible exact Below.size (by assumption)) | (simp; done) | (simp; omega)) _ | refine Below.setCell ?_ (by first | omega | (with_reducible exact Below.size (by assumption)) | (simp; done) | (simp; omega)) _ | refine below_step (by assumption) (by first | omega | (with_reducible exact Below.size (by assumption)) | (simp; done) | (simp; omega)) ?_)))).mono ?_); (rintro e w1 ⟨rfl, hb1⟩; obtain ⟨hc1, hf1⟩ := bcell hb1; have zs1 := hb1.size; (try simp at zs1); have n1_0 : w.heap.size < w1.heap.size := (by omega); have n1_1 : w.heap.size + 1 < w1.heap.size := (by omega)))
  have p1 : w1.cell? ⟨w.heap.size + 1, 0, none⟩ = some (.int .i64 0) := (hc1 _ 0 (by first | omega | (simp; done) | (simp; omega))).trans ((al2_1 rfl).2.1 0)
  have g1 : w1.frozen? ⟨w.heap.size + 1, 0, none⟩ = false := (hf1 _ 0 (by first | omega | (simp; done) | (simp; omega))).trans ((al2_1 rfl).2.2 0)
  have hbw1 : Below w.heap.size w w1 := by (repeat first | with_reducible assumption | with_reducible exact Below.refl _ _ | refine below_drewN ?_ _ | refine Below.drew ?_ | refine Below.alloc ?_ (by first | omega | (with_reducible exact Below.size (by assumption)) | (simp; done) | (simp; omega)) _ | refine Below.setCell ?_ (by first | omega | (with_reducible exact Below.size (by assumption)) | (simp; done) | (simp; omega)) _ | refine below_step (by assumption) (by first | omega | (with_reducible exact Below.size (by assumption)) | (simp; done) | (simp; omega)) ?_)
  clear hc1 hf1 hb1
  refine ⟨trivial, callsIn_wide.2 ((truths_c_q11 Ap Al np cp nl cl wrg pl ls w1 hl (HPI.out.later hbw1) (HLI.out.later hbw1)).mono ?_)⟩
  rintro e w2 ⟨b1, b2, rfl, h1, h2, hm, hb2⟩
  have HM := Lib.hid hm
  have p2 := (hb2.cell (p := ⟨w.heap.size + 1, 0, none⟩) n1_1).trans p1
  have g2 := (hb2.frozen (p := ⟨w.heap.size + 1, 0, none⟩) n1_1).trans g1
  have zs2 := hb2.size
  have hbw2 : Below w.heap.size w w2 := hbw1.trans (hb2.mono (by omega))
  have z2 := hbw2.size
  clear hm
  gi_wp2
  have en := enters_of Try.func63 (by kernel_rfl) rfl
  refine wpIn_range (gf := 63) (fst := #[]) (lb := #[.pointer (some ⟨b1, 0, none⟩), .pointer (some ⟨b2, 0, none⟩)]) rfl en (nets1_c b1 b2 Ap Al np cp nl cl wrg (min wrg nl) pl ls HK.out) ?hps
    (fun k W => k = 0 ∧ Below w.heap.size w W ∧ W.cell? ⟨w.heap.size + 1, 0, none⟩ = some (.int .i64 0) ∧ W.frozen? ⟨w.heap.size + 1, 0, none⟩ = false ∧ NetMem b1 b2 Ap Al np cp nl cl wrg (min wrg nl) pl ls W)
    (fun c W => c = .ret ∧ truthSets np nl pl ls wrg ≠ [] ∧ Below w.heap.size w W ∧ W.cell? ⟨w.heap.size + 1, 0, none⟩ = some (.int .i64 0)) ?hI ?hIx ?hmem ?h0 ?hround ?hdone ?hstop
  case hps => rintro x args W ⟨A, c, rfl, -⟩; rfl
  case hI =>
    rintro k W W' ⟨rfl, a1, a2, a3, a4⟩ ht
    exact ⟨rfl, ht.below z2 a1.size a1, ht.cell a2, ht.frozen a2 a3, a4.tame ht⟩
  case hIx =>
    rintro c W W' ⟨rfl, a0, a1, a2⟩ ht
    exact ⟨rfl, a0, ht.below z2 a1.size a1, ht.cell a2⟩
  case hmem => rintro k W ⟨_, _, _, _, h⟩; exact h
  case h0 => exact ⟨rfl, hbw2, p2, g2, HM.out⟩
  case hround =>
    rintro l k x args W hl' hx ⟨rfl, a1, a2, a3, a4⟩ ⟨A, c, rfl, hpp⟩
    have hx := Lib.hid hx
    clear a4 hpp
    gi_wp2
    refine ⟨KeepsFrom.refl _ _, fun W2 ht => ?_⟩
    have c2 := ht.cell a2
    have f2 := ht.frozen a2 a3
    have b2 := ht.below z2 a1.size a1
    clear a1 a2 a3 ht
    gi_wp2
    exact ⟨by (repeat first | with_reducible assumption | with_reducible exact KeepsFrom.refl _ _ | refine keeps_drewN ?_ _ | refine keeps_drew ?_ | refine keeps_alloc ?_ _ | refine keeps_setCell ?_ _ _ | refine keeps_step (by assumption) (Nat.le_refl _) ?_), rfl, (fun e => by have := hx.out; rw [truthSets] at e; rw [e] at this; simp at this), by (repeat first | with_reducible assumption | with_reducible exact Below.refl _ _ | refine below_drewN ?_ _ | refine Below.drew ?_ | refine Below.alloc ?_ (by first | omega | (with_reducible exact Below.size (by assumption)) | (simp; done) | (simp; omega)) _ | refine Below.setCell ?_ (by first | omega | (with_reducible exact Below.size (by assumption)) | (simp; done) | (simp; omega)) _ | refine below_step (by assumption) (by first | omega | (with_reducible exact Below.size (by assumption)) | (simp; done) | (simp; omega)) ?_), World.cell?_setCell_same _ _ _ c2⟩
  case hdone =>
    rintro D W hD ⟨h, a1, a2, a3, -⟩ hK
    have hE0 : (truthSets np nl pl ls wrg).isEmpty = true := by
      have := List.eq_nil_of_length_eq_zero h
      simpa [truthSets, List.isEmpty_iff] using this
    have hE := Lib.hid hE0
    clear hE0
    have zz := a1.size
    clear h
    gi_wp2
    rw [hE.out]
    refine leave_mark (v := .int .i64 3) (keeps_mark (B := w2.heap.size) (W := W) (by (repeat first | with_reducible assumption | with_reducible exact KeepsFrom.refl _ _ | refine keeps_drewN ?_ _ | refine keeps_drew ?_ | refine keeps_alloc ?_ _ | refine keeps_setCell ?_ _ _ | refine keeps_step (by assumption) (Nat.le_refl _) ?_)) hD hK) (fun W' ht => ?_) (fun W' ht => ⟨rfl, ht.below (by omega) (by simp; omega) (by (repeat first | with_reducible assumption | with_reducible exact Below.refl _ _ | refine below_drewN ?_ _ | refine Below.drew ?_ | refine Below.alloc ?_ (by first | omega | (with_reducible exact Below.size (by assumption)) | (simp; done) | (simp; omega)) _ | refine Below.setCell ?_ (by first | omega | (with_reducible exact Below.size (by assumption)) | (simp; done) | (simp; omega)) _ | refine below_step (by assumption) (by first | omega | (with_reducible exact Below.size (by assumption)) | (simp; done) | (simp; omega)) ?_))⟩)
    have c3 := ht.cell (World.cell?_setCell_same _ _ (.int .i64 3) a2)
    simp [results, Try.results37, go_sem, c3]
  case hstop =>
    rintro D c W hD ⟨rfl, a0, a1, a2⟩ hK
    have hE0 : (truthSets np nl pl ls wrg).isEmpty = false := by
      cases e : truthSets np nl pl ls wrg with
      | nil => exact absurd e a0
      | cons => rfl
    have hE := Lib.hid hE0
    clear hE0
    have zz := a1.size
    clear a0
    gi_wp2
    rw [hE.out]
    refine leave_mark (v := .int .i64 0) hK (fun W' ht => ?_) (fun W' ht => ⟨rfl, ht.below (by omega) (by omega) (by (repeat first | with_reducible assumption | with_reducible exact Below.refl _ _ | refine below_drewN ?_ _ | refine Below.drew ?_ | refine Below.alloc ?_ (by first | omega | (with_reducible exact Below.size (by assumption)) | (simp; done) | (simp; omega)) _ | refine Below.setCell ?_ (by first | omega | (with_reducible exact Below.size (by assumption)) | (simp; done) | (simp; omega)) _ | refine below_step (by assumption) (by first | omega | (with_reducible exact Below.size (by assumption)) | (simp; done) | (simp; omega)) ?_))⟩)
    have c3 := ht.cell a2
    simp [results, Try.results37, go_sem, c3]

end Go.Proofs.Ytdhlnlmhdacblaa

namespace Go.Proofs.Ytdhlnlmhdacblaa
open Go.RowKit
open Go.Sort (grow)
set_option linter.unusedVariables false
set_option linter.unusedSimpArgs false

def isTr (np nl nw ns : Nat) (pl : List Sp) (ls : List Ln) (wrg : Int) (ws ss : List Int) : Bool :=
  isAc nl nw ns ls ws ss && (allN np (fun p => wi_q11 (chgN ls ws ss p nl) (spAt pl p).lo (spAt pl p).hi) && decide ((wrgN ls ws nl : Int) ≤ wrg))
theorem acc_bd {np nl nw ns : Nat} {pl : List Sp} {ls : List Ln} {ws ss : List Int} (hw : ws.length = nw) (hs : ss.length = ns) (h : OkBk np nl pl ls) (ha : isAc nl nw ns ls ws ss = true) :
    nw = nl ∧ ns = nl ∧ (∀ k, 0 ≤ iAt ws k ∧ iAt ws k ≤ 999) ∧ ∀ k, 0 ≤ iAt ss k ∧ iAt ss k ≤ 999 := by
  simp only [isAc, Bool.and_eq_true, beq_iff_eq] at ha
  obtain ⟨⟨rfl, rfl⟩, h2⟩ := ha
  rw [allN_iff] at h2
  refine ⟨rfl, rfl, fun k => ?_, fun k => ?_⟩
  all_goals
    by_cases hk : k < ns
    · have h3 := h2 k hk
      have h4 := h.ln k
      simp only [acK, Bool.and_eq_true, wi_true_q11] at h3
      omega
    · first
        | (have : iAt ws k = 0 := by (unfold iAt; rw [List.getD_eq_getElem?_getD, List.getElem?_eq_none (by omega)]; rfl)
           omega)
        | (have : iAt ss k = 0 := by (unfold iAt; rw [List.getD_eq_getElem?_getD, List.getElem?_eq_none (by omega)]; rfl)
           omega)

end Go.Proofs.Ytdhlnlmhdacblaa

namespace Go.Proofs.Ytdhlnlmhdacblaa
open Go.RowKit
open Go.Sort (grow)
set_option linter.unusedVariables false
set_option linter.unusedSimpArgs false

def fitR (np nl nw ns : Nat) (pl : List Sp) (ls : List Ln) (wrg : Int) (ws ss : List Int) : Bool × Int :=
  bif ckBk np nl pl ls wrg then (bif isAc nl nw ns ls ws ss then (isTr np nl nw ns pl ls wrg ws ss, 0) else (false, 1)) else (false, 110)

end Go.Proofs.Ytdhlnlmhdacblaa

namespace Go.Proofs.Ytdhlnlmhdacblaa
open Go.RowKit
open Go.Sort (grow)
set_option linter.unusedVariables false
set_option linter.unusedSimpArgs false



end Go.Proofs.Ytdhlnlmhdacblaa

namespace Go.Proofs.Ytdhlnlmhdacblaa
open Go.RowKit
open Go.Sort (grow)
set_option linter.unusedVariables false
set_option linter.unusedSimpArgs false

/-- what pipe p adds to the room of a set of nodes -/
def gp (S : Nat → Bool) (p : Pp) : Int := (bif S p.to.toNat && !S p.fr.toNat then p.hi else 0) - (bif S p.fr.toNat && !S p.to.toNat then p.lo else 0)
def gap (S : Nat → Bool) : List Pp → Int
  | [] => 0
  | p :: l => gp S p + gap S l
def Can (l : List Pp) : Prop := ∀ S : Nat → Bool, 0 ≤ gap S l
theorem gap_append (S : Nat → Bool) (a b : List Pp) : gap S (a ++ b) = gap S a + gap S b := by
  induction a with
  | nil => simp [gap]
  | cons p a ih => simp [gap, ih]; omega
theorem ppAt_lt {l : List Pp} {k : Nat} (h : k < l.length) : ppAt l k = l[k] := by
  unfold ppAt; rw [List.getD_eq_getElem?_getD, List.getElem?_eq_getElem h]; rfl
theorem gap_take (pp : List Pp) (S n : Nat) (h : n ≤ pp.length) : inTo pp S n - outTo pp S n = gap S.testBit (pp.take n) := by
  induction n with
  | zero => simp [inTo, outTo, gap]
  | succ n ih =>
    have h1 := ih (by omega)
    rw [List.take_succ_eq_append_getElem (by omega), gap_append, ← h1, ← ppAt_lt (by omega)]
    simp only [inTo, outTo, gap, gp]
    omega
theorem gap_congr {S T : Nat → Bool} {l : List Pp} (h : ∀ p ∈ l, S p.fr.toNat = T p.fr.toNat ∧ S p.to.toNat = T p.to.toNat) : gap S l = gap T l := by
  induction l with
  | nil => rfl
  | cons p l ih =>
    have h1 := h p (by simp)
    simp only [gap, gp, h1.1, h1.2, ih fun q hq => h q (by simp [hq])]

def bitsOf (S : Nat → Bool) : Nat := (S 0).toNat + 2 * (S 1).toNat + 4 * (S 2).toNat + 8 * (S 3).toNat + 16 * (S 4).toNat + 32 * (S 5).toNat + 64 * (S 6).toNat
theorem bits_all : ∀ b0 b1 b2 b3 b4 b5 b6 : Bool, let N := b0.toNat + 2 * b1.toNat + 4 * b2.toNat + 8 * b3.toNat + 16 * b4.toNat + 32 * b5.toNat + 64 * b6.toNat
    N < 128 ∧ N.testBit 0 = b0 ∧ N.testBit 1 = b1 ∧ N.testBit 2 = b2 ∧ N.testBit 3 = b3 ∧ N.testBit 4 = b4 ∧ N.testBit 5 = b5 ∧ N.testBit 6 = b6 := by decide +kernel
theorem bitsOf_lt (S : Nat → Bool) : bitsOf S < 128 := (bits_all (S 0) (S 1) (S 2) (S 3) (S 4) (S 5) (S 6)).1
theorem bitsOf_bit (S : Nat → Bool) (i : Nat) (h : i < 7) : (bitsOf S).testBit i = S i := by
  obtain ⟨_, h0, h1, h2, h3, h4, h5, h6⟩ := bits_all (S 0) (S 1) (S 2) (S 3) (S 4) (S 5) (S 6)
  obtain rfl | rfl | rfl | rfl | rfl | rfl | rfl : i = 0 ∨ i = 1 ∨ i = 2 ∨ i = 3 ∨ i = 4 ∨ i = 5 ∨ i = 6 := by omega
  all_goals assumption

/-- nodes from 0 to 6 -/
def NodesOk (l : List Pp) : Prop := ∀ p ∈ l, p.fr.toNat < 7 ∧ p.to.toNat < 7
def LoHi (l : List Pp) : Prop := ∀ p ∈ l, p.lo ≤ p.hi

theorem canL_iff {l : List Pp} (hn : NodesOk l) : canL l.length l = true ↔ Can l := by
  rw [canL, allN_iff]
  constructor
  · intro h S
    have h1 := h _ (bitsOf_lt S)
    have h2 := gap_take l (bitsOf S) l.length (Nat.le_refl _)
    rw [List.take_length] at h2
    rw [gap_congr (T := (bitsOf S).testBit) (fun p hp => ⟨(bitsOf_bit S _ (hn p hp).1).symm, (bitsOf_bit S _ (hn p hp).2).symm⟩)]
    simp at h1
    omega
  · intro h S _
    have h2 := gap_take l S l.length (Nat.le_refl _)
    rw [List.take_length] at h2
    have := h S.testBit
    simp
    omega

theorem gp_sub (S T : Nat → Bool) (p : Pp) (h : p.lo ≤ p.hi) : gp (fun n => S n || T n) p + gp (fun n => S n && T n) p ≤ gp S p + gp T p := by
  simp only [gp]
  generalize S p.fr.toNat = a
  generalize S p.to.toNat = b
  generalize T p.fr.toNat = c
  generalize T p.to.toNat = d
  cases a <;> cases b <;> cases c <;> cases d <;> simp <;> omega
theorem gap_sub (S T : Nat → Bool) (l : List Pp) (h : LoHi l) : gap (fun n => S n || T n) l + gap (fun n => S n && T n) l ≤ gap S l + gap T l := by
  induction l with
  | nil => simp [gap]
  | cons p l ih =>
    have h1 := gp_sub S T p (h p (by simp))
    have h2 := ih fun q hq => h q (by simp [hq])
    simp only [gap]
    omega
theorem gap_set (S : Nat → Bool) (l : List Pp) (i : Nat) (q : Pp) (hi : i < l.length) : gap S (l.set i q) = gap S l - gp S (ppAt l i) + gp S q := by
  induction l generalizing i with
  | nil => simp at hi
  | cons p l ih =>
    cases i with
    | zero => simp only [List.set_cons_zero, gap]; have : ppAt (p :: l) 0 = p := rfl; rw [this]; omega
    | succ i =>
      have h1 := ih i (by simpa using hi)
      have : ppAt (p :: l) (i + 1) = ppAt l i := by simp [ppAt]
      simp only [List.set_cons_succ, gap, h1, this]; omega

/-- a pipe comes into a set; it goes out of it -/
def enP (S : Nat → Bool) (p : Pp) : Bool := S p.to.toNat && !S p.fr.toNat
def lvP (S : Nat → Bool) (p : Pp) : Bool := S p.fr.toNat && !S p.to.toNat
/-- the room of a set without pipe i -/
def gx (S : Nat → Bool) (l : List Pp) (i : Nat) : Int := gap S l - gp S (ppAt l i)

section
variable {l : List Pp} {i : Nat}
theorem gap_with (S : Nat → Bool) (a b : Int) (hi : i < l.length) : gap S (withPp l i a b) = gx S l i + (bif enP S (ppAt l i) then b else 0) - (bif lvP S (ppAt l i) then a else 0) := by
  unfold withPp gx
  rw [gap_set S l i _ hi]
  simp only [gp, enP, lvP]
  omega
theorem gap_self (S : Nat → Bool) : gap S l = gx S l i + (bif enP S (ppAt l i) then (ppAt l i).hi else 0) - (bif lvP S (ppAt l i) then (ppAt l i).lo else 0) := by
  unfold gx
  simp only [gp, enP, lvP]
  omega
theorem en_lv (S : Nat → Bool) (p : Pp) : enP S p = true → lvP S p = false := by
  unfold enP lvP; cases S p.fr.toNat <;> cases S p.to.toNat <;> simp
theorem lv_en (S : Nat → Bool) (p : Pp) : lvP S p = true → enP S p = false := by
  unfold enP lvP; cases S p.fr.toNat <;> cases S p.to.toNat <;> simp
theorem can_with_iff (a b : Int) (hi : i < l.length) : Can (withPp l i a b) ↔ ∀ S, 0 ≤ gx S l i + (bif enP S (ppAt l i) then b else 0) - (bif lvP S (ppAt l i) then a else 0) := by
  unfold Can
  exact ⟨fun h S => by rw [← gap_with S a b hi]; exact h S, fun h S => by rw [gap_with S a b hi]; exact h S⟩
/-- where the lower bound stays, only the sets count into which the pipe comes -/
theorem can_low {x a : Int} (hi : i < l.length) (hc : Can l) (ha : a ≤ (ppAt l i).lo) : Can (withPp l i a x) ↔ ∀ S, enP S (ppAt l i) = true → 0 ≤ gx S l i + x := by
  rw [can_with_iff a x hi]
  constructor
  · intro h S hS
    have := h S
    rw [hS, en_lv S _ hS] at this
    simpa using this
  · intro h S
    have h0 := hc S
    rw [gap_self S (i := i)] at h0
    cases e1 : enP S (ppAt l i)
    · cases e2 : lvP S (ppAt l i)
      · simp [e1, e2] at h0 ⊢; omega
      · simp [e1, e2] at h0 ⊢; omega
    · rw [en_lv S _ e1]
      have := h S e1
      simpa using this
theorem can_high {x b : Int} (hi : i < l.length) (hc : Can l) (hb : (ppAt l i).hi ≤ b) : Can (withPp l i x b) ↔ ∀ S, lvP S (ppAt l i) = true → 0 ≤ gx S l i - x := by
  rw [can_with_iff x b hi]
  constructor
  · intro h S hS
    have := h S
    rw [hS, lv_en S _ hS] at this
    simpa using this
  · intro h S
    have h0 := hc S
    rw [gap_self S (i := i)] at h0
    cases e1 : lvP S (ppAt l i)
    · cases e2 : enP S (ppAt l i)
      · simp [e1, e2] at h0 ⊢; omega
      · simp [e1, e2] at h0 ⊢; omega
    · rw [lv_en S _ e1]
      have := h S e1
      simpa using this
theorem cross (hi : i < l.length) (hlh : LoHi l) (hc : Can l) {S T : Nat → Bool} (hS : enP S (ppAt l i) = true) (hT : lvP T (ppAt l i) = true) : 0 ≤ gx S l i + gx T l i := by
  have hz : LoHi (withPp l i 0 0) := by
    intro p hp
    rcases List.mem_or_eq_of_mem_set hp with h | rfl
    · exact hlh p h
    · simp
  have h1 := gap_sub S T _ hz
  have e : ∀ U, gap U (withPp l i 0 0) = gx U l i := fun U => by rw [gap_with U 0 0 hi]; cases enP U (ppAt l i) <;> cases lvP U (ppAt l i) <;> simp
  rw [e, e, e, e] at h1
  have h2 := hc fun n => S n || T n
  have h3 := hc fun n => S n && T n
  rw [gap_self _ (i := i)] at h2 h3
  simp only [enP, Bool.and_eq_true, Bool.not_eq_true'] at hS
  simp only [lvP, Bool.and_eq_true, Bool.not_eq_true'] at hT
  simp [enP, lvP, hS.1, hS.2, hT.1, hT.2] at h2 h3
  omega

/-- L is the least, H the greatest that pipe i can carry -/
structure IsLow (l : List Pp) (i : Nat) (L : Int) : Prop where
  lo : (ppAt l i).lo ≤ L
  hi : L ≤ (ppAt l i).hi
  can : Can (withPp l i (ppAt l i).lo L)
  least : ∀ x, (ppAt l i).lo ≤ x → Can (withPp l i (ppAt l i).lo x) → L ≤ x
structure IsHigh (l : List Pp) (i : Nat) (H : Int) : Prop where
  lo : (ppAt l i).lo ≤ H
  hi : H ≤ (ppAt l i).hi
  can : Can (withPp l i H (ppAt l i).hi)
  most : ∀ x, x ≤ (ppAt l i).hi → Can (withPp l i x (ppAt l i).hi) → x ≤ H

theorem low_fix {L b : Int} (hi : i < l.length) (hlh : LoHi l) (hc : Can l) (h : IsLow l i L) (hb : L ≤ b) : Can (withPp l i L b) := by
  rw [can_with_iff L b hi]
  intro S
  have h0 := hc S
  rw [gap_self S (i := i)] at h0
  cases e1 : enP S (ppAt l i)
  · cases e2 : lvP S (ppAt l i)
    · simp [e1, e2] at h0 ⊢; omega
    · simp [e1, e2] at h0 ⊢
      rcases Int.lt_or_le (ppAt l i).lo L with hlt | hle
      · have hno : ¬ Can (withPp l i (ppAt l i).lo (L - 1)) := fun hx => by
          have := h.least (L - 1) (by omega) hx; omega
        rw [can_low hi hc (Int.le_refl _)] at hno
        have : ∃ S0, enP S0 (ppAt l i) = true ∧ ¬ 0 ≤ gx S0 l i + (L - 1) := by
          refine Classical.byContradiction fun hn => hno fun S0 hS0 => Classical.byContradiction fun hh => hn ⟨S0, hS0, hh⟩
        obtain ⟨S0, hS0, hlt0⟩ := this
        have := cross hi hlh hc hS0 e2
        omega
      · omega
  · have h1 := (can_low hi hc (Int.le_refl _)).1 h.can S e1
    rw [en_lv S _ e1]
    simp
    omega
theorem high_fix {H a : Int} (hi : i < l.length) (hlh : LoHi l) (hc : Can l) (h : IsHigh l i H) (ha : a ≤ H) : Can (withPp l i a H) := by
  rw [can_with_iff a H hi]
  intro S
  have h0 := hc S
  rw [gap_self S (i := i)] at h0
  cases e1 : lvP S (ppAt l i)
  · cases e2 : enP S (ppAt l i)
    · simp [e1, e2] at h0 ⊢; omega
    · simp [e1, e2] at h0 ⊢
      rcases Int.lt_or_le H (ppAt l i).hi with hlt | hle
      · have hno : ¬ Can (withPp l i (H + 1) (ppAt l i).hi) := fun hx => by
          have := h.most (H + 1) (by omega) hx; omega
        rw [can_high hi hc (Int.le_refl _)] at hno
        have : ∃ S0, lvP S0 (ppAt l i) = true ∧ ¬ 0 ≤ gx S0 l i - (H + 1) := by
          refine Classical.byContradiction fun hn => hno fun S0 hS0 => Classical.byContradiction fun hh => hn ⟨S0, hS0, hh⟩
        obtain ⟨S0, hS0, hlt0⟩ := this
        have := cross hi hlh hc e2 hS0
        omega
      · omega
  · have h1 := (can_high hi hc (Int.le_refl _)).1 h.can S e1
    rw [lv_en S _ e1]
    simp
    omega
theorem low_le_high {L H : Int} (hi : i < l.length) (hlh : LoHi l) (hc : Can l) (hL : IsLow l i L) (hH : IsHigh l i H) : L ≤ H :=
  hH.most L hL.hi (low_fix hi hlh hc hL hL.hi)
theorem withPp_nodes {a b : Int} (hi : i < l.length) (h : NodesOk l) : NodesOk (withPp l i a b) := by
  intro p hp
  rcases List.mem_or_eq_of_mem_set hp with h1 | rfl
  · exact h p h1
  · have := h (ppAt l i) (by rw [ppAt_lt hi]; exact List.getElem_mem hi)
    exact this
theorem withPp_lohi {a b : Int} (h : LoHi l) (hab : a ≤ b) : LoHi (withPp l i a b) := by
  intro p hp
  rcases List.mem_or_eq_of_mem_set hp with h1 | rfl
  · exact h p h1
  · exact hab
theorem withPp_length {a b : Int} : (withPp l i a b).length = l.length := by simp [withPp]
theorem withPp_self : withPp l i (ppAt l i).lo (ppAt l i).hi = l := by
  unfold withPp
  by_cases hi : i < l.length
  · rw [ppAt_lt hi]
    show l.set i l[i] = l
    simp
  · rw [List.set_eq_of_length_le (by omega)]
theorem leastN_spec {n : Nat} {p : Nat → Bool} : (leastN n p = n ∨ (leastN n p < n ∧ p (leastN n p) = true)) ∧ ∀ k, k < leastN n p → k < n → p k = false := by
  unfold leastN
  cases e : (List.range n).find? p with
  | none =>
    rw [List.find?_eq_none] at e
    exact ⟨.inl rfl, fun k _ hk => by simpa using e k (by simpa using hk)⟩
  | some j =>
    have hj := List.mem_of_find?_eq_some e
    have hp := List.find?_some e
    rw [List.find?_eq_some_iff_append] at e
    refine ⟨.inr ⟨by simpa using hj, hp⟩, fun k hk _ => ?_⟩
    obtain ⟨_, l1, l2, h1, h2⟩ := e
    have hlen : l1.length = j := by
      have h3 : (List.range n)[l1.length]? = some j := by rw [h1]; simp
      rw [List.getElem?_range (by
        have := congrArg List.length h1
        simp at this; omega)] at h3
      simpa using h3
    have h4 : (List.range n)[k]? = l1[k]? := by rw [h1]; rw [List.getElem?_append_left (by simpa [hlen] using hk)]
    simp at hk hj
    rw [List.getElem?_range (by omega)] at h4
    have := h2 k (List.mem_of_getElem? h4.symm)
    simpa using this
theorem endsP_low (hi : i < l.length) (hn : NodesOk l) (hlh : LoHi l) (hc : Can l) : IsLow l i (endsP l.length l i).lo := by
  have hd : (ppAt l i).lo ≤ (ppAt l i).hi := hlh _ (by rw [ppAt_lt hi]; exact List.getElem_mem hi)
  have hq : ∀ k : Nat, canL l.length (withPp l i (ppAt l i).lo ((ppAt l i).lo + k)) = true ↔ Can (withPp l i (ppAt l i).lo ((ppAt l i).lo + k)) := fun k => by
    have := canL_iff (withPp_nodes (a := (ppAt l i).lo) (b := (ppAt l i).lo + k) hi hn)
    rwa [withPp_length] at this
  obtain ⟨h1, h2⟩ := leastN_spec (n := ((ppAt l i).hi - (ppAt l i).lo).toNat) (p := fun k => canL l.length (withPp l i (ppAt l i).lo ((ppAt l i).lo + k)))
  have h3 : leastN ((ppAt l i).hi - (ppAt l i).lo).toNat (fun k => canL l.length (withPp l i (ppAt l i).lo ((ppAt l i).lo + k))) = lowP l.length l i := rfl
  rw [h3] at h1 h2
  have h4 : (endsP l.length l i).lo = (ppAt l i).lo + lowP l.length l i := rfl
  have hle : lowP l.length l i ≤ ((ppAt l i).hi - (ppAt l i).lo).toNat := leastN_le _ _
  refine ⟨by omega, by omega, ?_, fun x hx hcx => ?_⟩
  · rw [h4]
    rcases h1 with h1 | ⟨_, h1⟩
    · rw [h1, show (ppAt l i).lo + ((((ppAt l i).hi - (ppAt l i).lo).toNat : Nat) : Int) = (ppAt l i).hi by omega, withPp_self]
      exact hc
    · exact (hq _).1 h1
  · rw [h4]
    refine Classical.byContradiction fun hlt => ?_
    have h5 := h2 (x - (ppAt l i).lo).toNat (by omega) (by omega)
    have h6 := (hq (x - (ppAt l i).lo).toNat).2 (by rw [show (ppAt l i).lo + (((x - (ppAt l i).lo).toNat : Nat) : Int) = x by omega]; exact hcx)
    rw [h6] at h5
    cases h5
theorem endsP_high (hi : i < l.length) (hn : NodesOk l) (hlh : LoHi l) (hc : Can l) : IsHigh l i (endsP l.length l i).hi := by
  have hd : (ppAt l i).lo ≤ (ppAt l i).hi := hlh _ (by rw [ppAt_lt hi]; exact List.getElem_mem hi)
  have hq : ∀ k : Nat, canL l.length (withPp l i ((ppAt l i).hi - k) (ppAt l i).hi) = true ↔ Can (withPp l i ((ppAt l i).hi - k) (ppAt l i).hi) := fun k => by
    have := canL_iff (withPp_nodes (a := (ppAt l i).hi - k) (b := (ppAt l i).hi) hi hn)
    rwa [withPp_length] at this
  obtain ⟨h1, h2⟩ := leastN_spec (n := ((ppAt l i).hi - (ppAt l i).lo).toNat) (p := fun k => canL l.length (withPp l i ((ppAt l i).hi - k) (ppAt l i).hi))
  have h3 : leastN ((ppAt l i).hi - (ppAt l i).lo).toNat (fun k => canL l.length (withPp l i ((ppAt l i).hi - k) (ppAt l i).hi)) = highP l.length l i := rfl
  rw [h3] at h1 h2
  have h4 : (endsP l.length l i).hi = (ppAt l i).hi - highP l.length l i := rfl
  have hle : highP l.length l i ≤ ((ppAt l i).hi - (ppAt l i).lo).toNat := leastN_le _ _
  refine ⟨by omega, by omega, ?_, fun x hx hcx => ?_⟩
  · rw [h4]
    rcases h1 with h1 | ⟨_, h1⟩
    · rw [h1, show (ppAt l i).hi - ((((ppAt l i).hi - (ppAt l i).lo).toNat : Nat) : Int) = (ppAt l i).lo by omega, withPp_self]
      exact hc
    · exact (hq _).1 h1
  · rw [h4]
    refine Classical.byContradiction fun hlt => ?_
    have h5 := h2 ((ppAt l i).hi - x).toNat (by omega) (by omega)
    have h6 := (hq ((ppAt l i).hi - x).toNat).2 (by rw [show (ppAt l i).hi - ((((ppAt l i).hi - x).toNat : Nat) : Int) = x by omega]; exact hcx)
    rw [h6] at h5
    cases h5
end
theorem Can.mono {l m : List Pp} (h : Can l) (hg : ∀ S, gap S l ≤ gap S m) : Can m := fun S => Int.le_trans (h S) (hg S)
theorem low_le_low {l m : List Pp} {i j : Nat} {L L' : Int} (h : IsLow l i L) (h' : IsLow m j L') (hlo : (ppAt m j).lo ≤ L) (hc : Can (withPp m j (ppAt m j).lo L)) : L' ≤ L := h'.least L hlo hc

end Go.Proofs.Ytdhlnlmhdacblaa

namespace Go.Proofs.Ytdhlnlmhdacblaa
open Go.RowKit
open Go.Sort (grow)
set_option linter.unusedVariables false
set_option linter.unusedSimpArgs false



end Go.Proofs.Ytdhlnlmhdacblaa
