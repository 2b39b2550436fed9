/- Strong of repairs (layer 7); The laws of the prices (layer 7), in plain words: what RepairsPrices asks; The chapter's example reckoned (layer 7); Example of the statements (layer 7); works of the statements (layer 7): the chapter's examples; Far, ready, isAsk of the statements (layer 7); Less that is asked (layer 7), in plain words: what RepairsLess asks; The longer cable (layer 7), in plain words: what RepairsLonger asks. -/
import Derived.Test.YtcbeiadimchknaaGreatQp31
import Derived.Test.YtcbeiadimchknaaGreatQp29
import Derived.Test.YtcbeiadimchknaaGreatQp22
namespace Go.Proofs.YtcbeiadimchknaaGreat
open Go.RowKit
open Go.Sort (grow)
set_option linter.unusedVariables false
set_option linter.unusedSimpArgs false

attribute [local go_sem] Oper.semAt_some

theorem ck_at {n : Nat} {ls : List Sp} {q : Cb} (hl : ls.length = n) (h : ckC n ls q = true) {v : Int} (hv : v ∈ cand ls) : ckC n ls (q.at_ v) = true := by
  simp only [ckC, Bool.and_eq_true] at h ⊢
  obtain ⟨⟨h1, h2, h3⟩, h4⟩ := h
  refine ⟨⟨h1, wi_true_q7.2 ?_, h3⟩, h4⟩
  show 0 ≤ v ∧ v ≤ 9999
  rcases cand_mem.1 hv with rfl | ⟨i, hi, hvi⟩
  · omega
  · have := allN_iff.1 h4 i (by omega)
    simp only [ckSp7, Bool.not_eq_true', Bool.or_eq_false_iff, Bool.not_eq_false', decide_eq_false_iff_not] at this
    have h5 := wi_true_q7.1 this.1
    have h6 := this.2
    rcases hvi with rfl | rfl <;> omega
def cndK (ls : List Sp) (k : Nat) : List Int := 9999 :: (ls.take k).flatMap fun s => [s.lo, s.hi]
theorem cndK_all {ls : List Sp} {n : Nat} (hl : ls.length = n) : cndK ls n = cand ls := by unfold cndK cand; rw [← hl, List.take_length]
theorem cndK_succ {ls : List Sp} {k : Nat} (hk : k < ls.length) : cndK ls (k + 1) = cndK ls k ++ [(spAt ls k).lo, (spAt ls k).hi] := by
  unfold cndK
  rw [List.take_add_one, List.getElem?_eq_getElem hk, List.flatMap_append]
  have : spAt ls k = ls[k] := by simp [spAt, List.getD_eq_getElem?_getD, hk]
  rw [this]; simp
theorem cndK_len {ls : List Sp} {k : Nat} (hk : k ≤ ls.length) : (cndK ls k).length = 2 * k + 1 := by
  induction k with
  | zero => rfl
  | succ k ih => rw [cndK_succ (by omega), List.length_append, ih (by omega)]; simp; omega
theorem okB_run {n : Nat} {ls : List Sp} {q : Cb} {cuts v : Int} (h : ckC n ls (q.at_ v) = true) : okB_q7 q ls n cuts v = (erS_q7 n ls (q.at_ v) == 0 && decide (((plC n ls (q.at_ v)).length : Int) ≤ cuts)) := by
  unfold okB_q7 fewO erS_q7 plC
  rw [h]
  cases shL (q.at_ v) ls n with
  | nil => rfl
  | cons y r => simp [cntN]
theorem Fr.tame {bo base B : Nat} {w W W' : World} (h : Fr bo base w W) (hB : base ≤ B) (ht : Tame B W W') : Fr bo base w W' :=
  ⟨ht.os.trans h.os, ht.tape.trans h.tape, ht.output.trans h.output, Nat.le_trans h.size ht.size, fun g h1 h2 h3 => by
    rcases ht.same g (Nat.lt_of_lt_of_le h1 h.size) with h4 | ⟨h4, _⟩
    · exact h4.trans (h.same g h1 h2 h3)
    · omega⟩
theorem rev_at {zs : List Int} {m j i : Nat} (hl : zs.length = m) (h : (List.range m).reverse[j]? = some i) : j < m ∧ i < m ∧ zs.reverse[j]? = some (iAt zs i) := by
  have hj : j < m := by have := (List.getElem?_eq_some_iff.1 h).1; simpa using this
  rw [List.getElem?_reverse (by simpa using hj), List.length_range, List.getElem?_range (by omega)] at h
  obtain rfl : m - 1 - j = i := by simpa using h
  refine ⟨hj, by omega, ?_⟩
  rw [List.getElem?_reverse (by omega), hl]
  simp [iAt, List.getD_eq_getElem?_getD, List.getElem?_eq_getElem (show m - 1 - j < zs.length by omega)]
theorem str_some {q : Cb} {ls zs : List Sp} {n : Nat} {cuts v : Int} {l : List Int} {j : Nat} (hj : l[j]? = some v) (ho : okB_q7 q ls n cuts v = true) (hm : ∀ i, i < j → ∀ u, l[i]? = some u → okB_q7 q ls n cuts u = false) : l.find? (okB_q7 q ls n cuts) = some v := by
  rw [List.find?_eq_some_iff_getElem]
  obtain ⟨h1, h2⟩ := List.getElem?_eq_some_iff.1 hj
  exact ⟨ho, j, h1, h2, fun i hi => by rw [hm i hi _ (List.getElem?_eq_getElem (by omega))]; rfl⟩
theorem str_none {q : Cb} {ls : List Sp} {n : Nat} {cuts : Int} {l : List Int} (hm : ∀ i, i < l.length → ∀ u, l[i]? = some u → okB_q7 q ls n cuts u = false) : l.find? (okB_q7 q ls n cuts) = none := by
  rw [List.find?_eq_none]
  intro x hx
  obtain ⟨i, hi, e⟩ := List.getElem_of_mem hx
  rw [hm i hi x (by rw [List.getElem?_eq_getElem hi, e])]
  simp
theorem ints_fr {bo base n : Nat} {b o : Nat} {xs : List Int} {W W' : World} (h : IntsAt W (some ⟨b, o, none⟩) n xs) (hf : Fr bo base W W') (h1 : b ≠ bo) (h2 : b < base) : IntsAt W' (some ⟨b, o, none⟩) n xs := by
  refine ⟨h.1, fun hn => ?_⟩
  obtain ⟨b', o', e, hb, hc⟩ := h.2 hn
  obtain ⟨rfl, rfl⟩ : b = b' ∧ o = o' := by simpa using e
  exact ⟨b, o, rfl, Nat.lt_of_lt_of_le hb hf.size, fun k hk j u hu => (hf.cell (p := ⟨b, o + k * 1 + j, none⟩) hb h1 h2).trans (hc k hk j u hu)⟩
/-- what Strong hands back: a strength, an error -/
def stO2 : Option Int → Int × Int
  | some b => (b, 0)
  | none => (0, 3)
def stR (n : Nat) (ls : List Sp) (q : Cb) (cuts : Int) : Int × Int := bif ckC n ls q then (bif wi_q7 cuts 0 12 then stO2 (strO q ls n cuts) else (0, 1)) else (0, 70)

end Go.Proofs.YtcbeiadimchknaaGreat

namespace Go.Proofs.YtcbeiadimchknaaGreat
open Go.RowKit
open Go.Sort (grow)
set_option linter.unusedVariables false
set_option linter.unusedSimpArgs false

section
variable {q : Cb} {ls : List Sp} {n : Nat} {link shackle : Int}
theorem er_zero (h : ckC n ls q = true) : erS_q7 n ls q = 0 ↔ fewO q ls n ≠ none := by
  unfold erS_q7 fewO
  rw [h]
  cases shL q ls n with
  | nil => simp
  | cons y r => simp
theorem er_cases (h : ckC n ls q = true) : (erS_q7 n ls q = 0 ∧ fewO q ls n ≠ none) ∨ (erS_q7 n ls q = 3 ∧ fewO q ls n = none) := by
  unfold erS_q7 fewO
  rw [h]
  cases shL q ls n with
  | nil => right; simp
  | cons y r => left; simp
theorem pl_few (h : ckC n ls q = true) (hne : fewO q ls n ≠ none) : fewO q ls n = some (plC n ls q).length := by
  unfold fewO plC at *
  rw [h]
  cases e : shL q ls n with
  | nil => rw [e] at hne; exact absurd rfl hne
  | cons y r => rfl
/-- Cheapest of a valid cable at valid prices: its error is that of Fewest -/
theorem ch_err (h : ckC n ls q = true) (h1 : 0 ≤ link ∧ link ≤ 999) (h2 : 0 ≤ shackle ∧ shackle ≤ 999) : chR n ls q link shackle = bif erS_q7 n ls q == 0 then (chV q ls n link shackle, 0) else (0, 3) := by
  rw [chR_ok h (by rw [Bool.and_eq_true, wi_true_q7, wi_true_q7]; exact ⟨h1, h2⟩)]
  rcases er_cases h with ⟨e, hne⟩ | ⟨e, hne⟩
  · obtain ⟨⟨x, a1, a2, a3⟩, -⟩ := ch_some h1.1 h2.1 hne
    have := prc_nonneg h1.1 h2.1 n x
    rw [e, show decide (chV q ls n link shackle < 0) = false by simp; omega]; rfl
  · rw [e, ch_none hne]; rfl
theorem ch_one (hck : ckC n ls q = true) (hne : fewO q ls n ≠ none) : chV q ls n 1 0 = ((plC n ls q).length : Int) := by
  obtain ⟨⟨x, a1, a2, a3⟩, a4⟩ := ch_some (link := 1) (shackle := 0) (by omega) (by omega) hne
  obtain ⟨⟨y, b1, b2, b3⟩, b4⟩ := few_some (pl_few hck hne)
  have c1 := a4 y b1 b2
  have c2 := b4 x a1 a2
  unfold prc at a3 c1
  omega
theorem ch_more {link' shackle' : Int} (h1 : 0 ≤ link) (h2 : 0 ≤ shackle) (h3 : link ≤ link') (h4 : shackle ≤ shackle') (hne : fewO q ls n ≠ none) : chV q ls n link shackle ≤ chV q ls n link' shackle' := by
  obtain ⟨⟨x, a1, a2, a3⟩, -⟩ := ch_some (Int.le_trans h1 h3) (Int.le_trans h2 h4) hne
  obtain ⟨-, b4⟩ := ch_some h1 h2 hne
  have c := b4 x a1 a2
  have d : prc link shackle n x ≤ prc link' shackle' n x := by
    unfold prc
    have e := Int.mul_le_mul_of_nonneg_right h3 (show 0 ≤ (cntN x n : Int) by omega)
    have f := Int.mul_le_mul_of_nonneg_right h4 (shk_nonneg x n)
    omega
  omega
theorem ch_scale {k : Int} (hk : 0 < k) (h1 : 0 ≤ link) (h2 : 0 ≤ shackle) (hne : fewO q ls n ≠ none) : chV q ls n (k * link) (k * shackle) = k * chV q ls n link shackle := by
  have hp : ∀ x, prc (k * link) (k * shackle) n x = k * prc link shackle n x := fun x => by
    unfold prc
    rw [Int.mul_add, Int.mul_assoc, Int.mul_assoc]
  obtain ⟨⟨x, a1, a2, a3⟩, a4⟩ := ch_some h1 h2 hne
  obtain ⟨⟨y, b1, b2, b3⟩, b4⟩ := ch_some (Int.mul_nonneg (Int.le_of_lt hk) h1) (Int.mul_nonneg (Int.le_of_lt hk) h2) hne
  have c1 := b4 x a1 a2
  have c2 := Int.mul_le_mul_of_nonneg_left (a4 y b1 b2) (Int.le_of_lt hk)
  rw [hp] at b3 c1
  rw [← a3] at c1
  omega
theorem ch_bd (h1 : 0 ≤ link ∧ link ≤ 999) (h2 : 0 ≤ shackle ∧ shackle ≤ 999) (hn : n ≤ 12) (hne : fewO q ls n ≠ none) : 0 ≤ chV q ls n link shackle ∧ chV q ls n link shackle ≤ 100000 := by
  obtain ⟨⟨x, a1, a2, a3⟩, -⟩ := ch_some h1.1 h2.1 hne
  have := prc_bd h1.1 h1.2 h2.1 h2.2 hn x
  rw [a3]
  unfold prc
  omega
end

end Go.Proofs.YtcbeiadimchknaaGreat

namespace Go.Proofs.YtcbeiadimchknaaGreat
open Go.RowKit
open Go.Sort (grow)
set_option linter.unusedVariables false
set_option linter.unusedSimpArgs false

def exL7 : List Sp := [⟨50, 60⟩, ⟨30, 35⟩, ⟨50, 50⟩, ⟨38, 45⟩, ⟨55, 60⟩, ⟨60, 60⟩, ⟨52, 58⟩]
def exQ7 : Cb := ⟨40, 1, 0, 2, 1⟩
theorem ev_ck : ckC 7 exL7 exQ7 = true := by decide
theorem ev_er : erS_q7 7 exL7 exQ7 = 0 := by kernel_rfl
theorem ev_pl : (plC 7 exL7 exQ7).length = 2 := by kernel_rfl
theorem ev_mu : muL 7 exL7 exQ7 = [1, 3] := by kernel_rfl
theorem ev_ch : chR 7 exL7 exQ7 1 5 = (4, 0) := by kernel_rfl
theorem ev_ge : gvE 7 2 exL7 exQ7 [1, 3] = 0 := by kernel_rfl
theorem ev_gs : gvS 7 2 exL7 exQ7 [1, 3] = 2 := by kernel_rfl
theorem ev_st : strO exQ7 exL7 7 2 = some 50 := by
  have h1 : okB_q7 exQ7 exL7 7 2 50 = true := by kernel_rfl
  have h2 : ((cand exL7).all fun c => decide (c ≤ 50) || !okB_q7 exQ7 exL7 7 2 c) = true := by kernel_rfl
  have h3 : (50 : Int) ∈ cand exL7 := by decide
  rw [List.all_eq_true] at h2
  cases h : strO exQ7 exL7 7 2 with
  | none => have := srt_none.1 h 50 h3; rw [h1] at this; cases this
  | some b =>
    obtain ⟨a1, a2, a3⟩ := srt_spec h
    have b1 := a3 50 h3 h1
    have b2 := h2 b a1
    rw [a2] at b2
    simp at b2
    congr 1; omega
theorem ev_sr : stR 7 exL7 exQ7 2 = (50, 0) := by unfold stR; rw [ev_ck, ev_st]; rfl

end Go.Proofs.YtcbeiadimchknaaGreat

namespace Go.Proofs.YtcbeiadimchknaaGreat
open Go.RowKit
open Go.Sort (grow)
set_option linter.unusedVariables false
set_option linter.unusedSimpArgs false

theorem sl_cells_q7 {α : Type} {enc : α → List Value} {size : Nat} {d : α} (hs : ∀ x, (enc x).length = size) {w : World} {cs : Array Value} {ys : List α} {g m : Nat} (hg : g < w.heap.size) (hc : ∀ i, w.cell? ⟨g, i, none⟩ = cs[i]?) (hl : ys.length = m) (hcs : cs.toList = ys.flatMap enc) :
    SlAt enc size d w (some ⟨g, 0, none⟩) m ys := by
  refine ⟨hl, fun _ => ⟨g, 0, rfl, hg, fun k hk j u hu => ?_⟩⟩
  have hj : j < size := by
    have := (List.getElem?_eq_some_iff.1 hu).1
    rwa [hs] at this
  rw [hc, Nat.zero_add, ← Array.getElem?_toList, hcs, flat_get (d := d) hs ys k j hj (by omega)]
  exact hu
set_option maxRecDepth 100000 in
set_option maxHeartbeats 1600000 in
theorem Example_c_q7 (w : World) :
    Calls Tryz.prog 24 #[] w fun e w' => ∃ A, e = .returned (.agg #[.slice A 7 7, .int .i64 40, .int .i64 1, .int .i64 0, .int .i64 2, .int .i64 1]) ∧ SpsAt w' A 7 exL7 ∧ Below w.heap.size w w' := by
  go_enter Tryz.func24, Tryz.ntmps24
  go_wp2_with fail
  have hS : ∀ W : World, W.heap.size = w.heap.size + 1 → SpsAt (W.alloc (.cells #[.int .i64 50, .int .i64 60, .int .i64 30, .int .i64 35, .int .i64 50, .int .i64 50, .int .i64 38, .int .i64 45, .int .i64 55, .int .i64 60, .int .i64 60, .int .i64 60, .int .i64 52, .int .i64 58] 34)) (some ⟨w.heap.size + 1, 0, none⟩) 7 exL7 := fun W hW =>
    sps_iff.2 (sl_new encS_len hW rfl rfl)
  have hR : ∀ (W : World) (o : Obj), W.heap.size = w.heap.size → ∀ j, ((W.alloc (.cells #[.slice (some ⟨w.heap.size + 1, 0, none⟩) 7 7, .int .i64 40, .int .i64 1, .int .i64 0, .int .i64 2, .int .i64 1] 24)).alloc o).cell? ⟨w.heap.size, j, none⟩ = #[Value.slice (some ⟨w.heap.size + 1, 0, none⟩) 7 7, .int .i64 40, .int .i64 1, .int .i64 0, .int .i64 2, .int .i64 1][j]? := fun W o hW j => by
    rw [World.cell?_alloc_lt _ _ _ (by simp; omega), ← hW]
    exact World.cell?_alloc_new W _ _ j
  have hr := hR w (.cells #[.int .i64 50, .int .i64 60, .int .i64 30, .int .i64 35, .int .i64 50, .int .i64 50, .int .i64 38, .int .i64 45, .int .i64 55, .int .i64 60, .int .i64 60, .int .i64 60, .int .i64 52, .int .i64 58] 34) rfl
  refine bodyPost_ret (v := .agg #[.slice (some ⟨w.heap.size + 1, 0, none⟩) 7 7, .int .i64 40, .int .i64 1, .int .i64 0, .int .i64 2, .int .i64 1]) ?_ rfl ⟨some ⟨w.heap.size + 1, 0, none⟩, rfl, hS _ (by simp), by (repeat first | with_reducible assumption | with_reducible exact Below.refl _ _ | (with_reducible refine Below.alloc ?_ ?side _; case side => (first | omega | (with_reducible exact Below.size (by assumption)) | (simp; done) | (simp; omega))) | (with_reducible refine Below.setCell ?_ ?side _; case side => (first | omega | (with_reducible exact Below.size (by assumption)) | (simp; done) | (simp; omega))) | with_reducible refine Below.drew ?_ | with_reducible refine below_drewN ?_ _ | (with_reducible refine below_step (by assumption) ?side ?_; case side => (first | omega | (with_reducible exact Below.size (by assumption)) | (simp; done) | (simp; omega))))⟩
  simp [results, Tryz.results24, go_sem, hr]

end Go.Proofs.YtcbeiadimchknaaGreat

namespace Go.Proofs.YtcbeiadimchknaaGreat
open Go.RowKit
open Go.Sort (grow)
set_option linter.unusedVariables false
set_option linter.unusedSimpArgs false

theorem ev_same7 : (2 == 2 && allN 2 fun k => iAt [1, 3] k == iAt [1, 3] k) = true := by decide

end Go.Proofs.YtcbeiadimchknaaGreat

namespace Go.Proofs.YtcbeiadimchknaaGreat
open Go.RowKit
open Go.Sort (grow)
set_option linter.unusedVariables false
set_option linter.unusedSimpArgs false

def farC (n : Nat) (ls : List Sp) (q : Cb) : Bool := decide ((40 : Int) < n) || (ckC n ls q && decide ((8 : Int) < n))
def rdyC (n : Nat) (ls : List Sp) (q : Cb) : Bool := !farC n ls q && ckC n ls q
theorem rdyC_len {n : Nat} {ls : List Sp} {q : Cb} (h : rdyC n ls q = true) : n ≤ 8 ∧ ckC n ls q = true := by
  simp only [rdyC, farC, Bool.and_eq_true, Bool.not_eq_true', Bool.or_eq_false_iff, decide_eq_false_iff_not] at h
  obtain ⟨⟨h1, h2⟩, h3⟩ := h
  rw [h3] at h2
  simp at h2
  exact ⟨by omega, h3⟩
set_option maxRecDepth 100000 in
set_option maxHeartbeats 800000 in
theorem Far_c_q7 (A : Option Addr) (n c : Nat) (q : Cb) (ls : List Sp) (w : World) (HL : SpsAt w A n ls) :
    Calls Tryz.prog 5 #[.agg #[.slice A n c, .int .i64 q.need, .int .i64 q.gap, .int .i64 q.doubt, .int .i64 q.joins, .int .i64 q.least]] w fun e w' => e = .returned (.bool (farC n ls q)) ∧ Below w.heap.size w w' := by
  by_cases h40 : (40 : Int) < n
  · have hB : decide ((40 : Int) < n) = true := by simpa using h40
    have e1 : farC n ls q = true := by simp [farC, hB]
    rw [e1]
    go_enter Tryz.func5, Tryz.ntmps5
    go_wp2_with fail
    go_ret
    exact ⟨rfl, by (repeat first | with_reducible assumption | with_reducible exact Below.refl _ _ | (with_reducible refine Below.alloc ?_ ?side _; case side => (first | omega | (with_reducible exact Below.size (by assumption)) | (simp; done) | (simp; omega))) | (with_reducible refine Below.setCell ?_ ?side _; case side => (first | omega | (with_reducible exact Below.size (by assumption)) | (simp; done) | (simp; omega))) | with_reducible refine Below.drew ?_ | with_reducible refine below_drewN ?_ _ | (with_reducible refine below_step (by assumption) ?side ?_; case side => (first | omega | (with_reducible exact Below.size (by assumption)) | (simp; done) | (simp; omega))))⟩
  · have hB : decide ((40 : Int) < n) = false := by simpa using h40
    have hcc : ∀ W, Below w.heap.size w W → Calls Tryz.prog 6 #[.agg #[.slice A n c, .int .i64 q.need, .int .i64 q.gap, .int .i64 q.doubt, .int .i64 q.joins, .int .i64 q.least]] W fun e w' => e = .returned (.int .i64 (erC (ckC n ls q))) ∧ Below W.heap.size W w' := fun W hW =>
      refCheck_c_q7 A n c q ls W (by omega) (HL.later hW)
    cases hck : ckC n ls q
    · have e1 : farC n ls q = false := by simp [farC, hB, hck]
      rw [e1]
      rw [hck] at hcc
      replace hcc := Lib.hid hcc
      clear HL hck e1
      go_enter Tryz.func5, Tryz.ntmps5
      go_wp2_with (go_at_call 6; refine (hcc.out _ (by (repeat first | with_reducible assumption | with_reducible exact Below.refl _ _ | (with_reducible refine Below.alloc ?_ ?side _; case side => (first | omega | (with_reducible exact Below.size (by assumption)) | (simp; done) | (simp; omega))) | (with_reducible refine Below.setCell ?_ ?side _; case side => (first | omega | (with_reducible exact Below.size (by assumption)) | (simp; done) | (simp; omega))) | with_reducible refine Below.drew ?_ | with_reducible refine below_drewN ?_ _ | (with_reducible refine below_step (by assumption) ?side ?_; case side => (first | omega | (with_reducible exact Below.size (by assumption)) | (simp; done) | (simp; omega)))))).mono ?_; (rw [show erC false = 70 from rfl]); (rintro e w1 ⟨rfl, hb1⟩; obtain ⟨hc1, hf1⟩ := bcell hb1; have zs1 := hb1.size; (try simp at zs1); have n1_0 : w.heap.size < w1.heap.size := (by omega)))
      go_ret
      exact ⟨rfl, by (repeat first | with_reducible assumption | with_reducible exact Below.refl _ _ | (with_reducible refine Below.alloc ?_ ?side _; case side => (first | omega | (with_reducible exact Below.size (by assumption)) | (simp; done) | (simp; omega))) | (with_reducible refine Below.setCell ?_ ?side _; case side => (first | omega | (with_reducible exact Below.size (by assumption)) | (simp; done) | (simp; omega))) | with_reducible refine Below.drew ?_ | with_reducible refine below_drewN ?_ _ | (with_reducible refine below_step (by assumption) ?side ?_; case side => (first | omega | (with_reducible exact Below.size (by assumption)) | (simp; done) | (simp; omega))))⟩
    · have e1 : farC n ls q = decide ((8 : Int) < n) := by simp [farC, hB, hck]
      rw [e1]
      rw [hck] at hcc
      replace hcc := Lib.hid hcc
      clear HL hck e1
      go_enter Tryz.func5, Tryz.ntmps5
      cases h8 : decide ((8 : Int) < n)
      all_goals
        go_wp2_with (go_at_call 6; refine (hcc.out _ (by (repeat first | with_reducible assumption | with_reducible exact Below.refl _ _ | (with_reducible refine Below.alloc ?_ ?side _; case side => (first | omega | (with_reducible exact Below.size (by assumption)) | (simp; done) | (simp; omega))) | (with_reducible refine Below.setCell ?_ ?side _; case side => (first | omega | (with_reducible exact Below.size (by assumption)) | (simp; done) | (simp; omega))) | with_reducible refine Below.drew ?_ | with_reducible refine below_drewN ?_ _ | (with_reducible refine below_step (by assumption) ?side ?_; case side => (first | omega | (with_reducible exact Below.size (by assumption)) | (simp; done) | (simp; omega)))))).mono ?_; (rw [show erC true = 0 from rfl]); (rintro e w1 ⟨rfl, hb1⟩); have d0 := (fun j => (hb1.cell (p := ⟨w.heap.size, j, none⟩) (by simp)).trans ((al1_0 rfl).2.1 j)))
        go_ret
        exact ⟨rfl, by (repeat first | with_reducible assumption | with_reducible exact Below.refl _ _ | (with_reducible refine Below.alloc ?_ ?side _; case side => (first | omega | (with_reducible exact Below.size (by assumption)) | (simp; done) | (simp; omega))) | (with_reducible refine Below.setCell ?_ ?side _; case side => (first | omega | (with_reducible exact Below.size (by assumption)) | (simp; done) | (simp; omega))) | with_reducible refine Below.drew ?_ | with_reducible refine below_drewN ?_ _ | (with_reducible refine below_step (by assumption) ?side ?_; case side => (first | omega | (with_reducible exact Below.size (by assumption)) | (simp; done) | (simp; omega))))⟩
def askC (link shackle cuts : Int) : Bool := wi_q7 link 0 999 && wi_q7 shackle 0 999 && wi_q7 cuts 0 12
theorem askC_iff {link shackle cuts : Int} : askC link shackle cuts = true ↔ (0 ≤ link ∧ link ≤ 999) ∧ (0 ≤ shackle ∧ shackle ≤ 999) ∧ 0 ≤ cuts ∧ cuts ≤ 12 := by
  unfold askC
  rw [Bool.and_eq_true, Bool.and_eq_true, wi_true_q7, wi_true_q7, wi_true_q7]
  exact ⟨fun ⟨⟨a, b⟩, c⟩ => ⟨a, b, c⟩, fun ⟨a, b, c⟩ => ⟨⟨a, b⟩, c⟩⟩

end Go.Proofs.YtcbeiadimchknaaGreat

namespace Go.Proofs.YtcbeiadimchknaaGreat
open Go.RowKit
open Go.Sort (grow)
set_option linter.unusedVariables false
set_option linter.unusedSimpArgs false

theorem okSp_of {n : Nat} {ls : List Sp} {q : Cb} (hl : ls.length = n) (h : ckC n ls q = true) : OkSp ls n := by
  refine ⟨hl, fun i hi => ?_⟩
  simp only [ckC, Bool.and_eq_true] at h
  have := allN_iff.1 h.2 i (by omega)
  simp only [ckSp7, Bool.not_eq_true', Bool.or_eq_false_iff, Bool.not_eq_false', decide_eq_false_iff_not] at this
  have h5 := wi_true_q7.1 this.1
  have h6 := this.2
  omega
theorem str_cases {q : Cb} {ls : List Sp} {n : Nat} {cuts : Int} (h : ckC n ls q = true) (hc : 0 ≤ cuts ∧ cuts ≤ 12) : (stR n ls q cuts = (0, 3) ∧ strO q ls n cuts = none) ∨ ∃ b, stR n ls q cuts = (b, 0) ∧ strO q ls n cuts = some b := by
  unfold stR
  rw [h, wi_true_q7.2 hc]
  cases strO q ls n cuts with
  | none => exact .inl ⟨rfl, rfl⟩
  | some b => exact .inr ⟨b, rfl, rfl⟩
theorem str_easier {q q' : Cb} {ls ls' : List Sp} {n : Nat} {cuts b : Int} (hs : OkSp ls n) (hs' : OkSp ls' n) (e : Easier q q' ls ls' n) (h : strO q ls n cuts = some b) : ∃ b', strO q' ls' n cuts = some b' ∧ b ≤ b' := by
  have hb := str_bd hs h
  have h1 := (strong_iff hs hb.2).2 ⟨b, h, Int.le_refl _⟩
  have h2 : okB_q7 q' ls' n cuts b = true := ok_easier (q := q) (v := b) (q' := q') (v' := b) ⟨Int.le_refl _, e.gap, e.least, e.doubt, e.joins, e.lo, e.hi⟩ h1
  exact (strong_iff hs' hb.2).1 h2
theorem less_vals {q q' : Cb} {ls ls' : List Sp} {n : Nat} {x0 x1 x2 : Int} (e : Easier q q' ls ls' n) (h : ckC n ls q = true) (h' : ckC n ls' q' = true) (hl : ls.length = n) (hl' : ls'.length = n) (ha : askC x0 x1 x2 = true) :
    (erS_q7 n ls q = 3 ∧ (erS_q7 n ls' q' = 0 ∨ erS_q7 n ls' q' = 3) ∨ erS_q7 n ls q = 0 ∧ erS_q7 n ls' q' = 0 ∧ (plC n ls' q').length ≤ (plC n ls q).length ∧ (chR n ls' q' x0 x1).1 ≤ (chR n ls q x0 x1).1) ∧
    (chR n ls q x0 x1).2 = erS_q7 n ls q ∧ (chR n ls' q' x0 x1).2 = erS_q7 n ls' q' ∧
    ((stR n ls q x2).2 = 3 ∧ ((stR n ls' q' x2).2 = 0 ∨ (stR n ls' q' x2).2 = 3) ∨ (stR n ls q x2).2 = 0 ∧ (stR n ls' q' x2).2 = 0 ∧ (stR n ls q x2).1 ≤ (stR n ls' q' x2).1) := by
  obtain ⟨h0, h1, h2⟩ := askC_iff.1 ha
  rw [ch_err h h0 h1, ch_err h' h0 h1]
  refine ⟨?_, ?_, ?_, ?_⟩
  · rcases er_cases h with ⟨z, hne⟩ | ⟨z, hne⟩
    · right
      have hf := pl_few h hne
      obtain ⟨b, hb, hle⟩ := few_easier e hf
      have hne' : fewO q' ls' n ≠ none := by rw [hb]; simp
      have z' := (er_zero h').2 hne'
      have hf' := pl_few h' hne'
      rw [hb] at hf'
      refine ⟨z, z', by have := Option.some.inj hf'; omega, ?_⟩
      rw [z, z']
      exact ch_easier e h0.1 h1.1 hne
    · exact .inl ⟨z, (er_cases h').imp And.left And.left⟩
  · rcases er_cases h with ⟨z, hne⟩ | ⟨z, hne⟩ <;> rw [z] <;> rfl
  · rcases er_cases h' with ⟨z, hne⟩ | ⟨z, hne⟩ <;> rw [z] <;> rfl
  · rcases str_cases (q := q) (ls := ls) h h2 with ⟨z, hn⟩ | ⟨b, z, hb⟩
    · left
      rw [z]
      refine ⟨rfl, ?_⟩
      rcases str_cases (q := q') (ls := ls') h' h2 with ⟨z, hn⟩ | ⟨b, z, hb⟩
      · rw [z]; exact .inr rfl
      · rw [z]; exact .inl rfl
    · right
      obtain ⟨b', hb', hle⟩ := str_easier (okSp_of hl h) (okSp_of hl' h') e hb
      rcases str_cases (q := q') (ls := ls') h' h2 with ⟨z', hn⟩ | ⟨b2, z', hb2⟩
      · rw [hb'] at hn; cases hn
      · rw [hb'] at hb2
        rw [z, z']
        refine ⟨rfl, rfl, ?_⟩
        have := Option.some.inj hb2
        omega

end Go.Proofs.YtcbeiadimchknaaGreat

namespace Go.Proofs.YtcbeiadimchknaaGreat
open Go.RowKit
open Go.Sort (grow)
set_option linter.unusedVariables false
set_option linter.unusedSimpArgs false

theorem anyN_iff {n : Nat} {p : Nat → Bool} : anyN n p = true ↔ ∃ k, k < n ∧ p k = true := by
  unfold anyN
  rw [Bool.not_eq_true', Bool.eq_false_iff, ne_eq, allN_iff]
  simp
theorem ofK_bit {l : List Int} {k : Nat} (h : ∀ j, j < k → 0 ≤ iAt l j) (i : Nat) : (ofK l k).testBit i = anyN k fun j => iAt l j == (i : Int) := by
  rw [Bool.eq_iff_iff, anyN_iff]
  induction k with
  | zero => simp [ofK]
  | succ k ih =>
    rw [ofK_succ, Nat.testBit_or, Bool.or_eq_true, ih fun j hj => h j (by omega)]
    have h0 := h k (by omega)
    constructor
    · rintro (⟨j, hj, e⟩ | e)
      · exact ⟨j, by omega, e⟩
      · rw [Nat.testBit_two_pow, decide_eq_true_eq] at e
        exact ⟨k, by omega, by simp; omega⟩
    · rintro ⟨j, hj, e⟩
      rcases Nat.lt_succ_iff_lt_or_eq.1 hj with h' | rfl
      · exact .inl ⟨j, h', e⟩
      · right
        rw [Nat.testBit_two_pow, decide_eq_true_eq]
        simp at e
        omega
theorem isR_nn {n m : Nat} {l : List Int} (h : isR n m l = true) : ∀ j, j < m → 0 ≤ iAt l j ∧ iAt l j < n := fun j hj => by
  have := allN_iff.1 h j hj
  simp only [stO, Bool.and_eq_true] at this
  have := wi_true_q7.1 this.1
  omega
theorem isR_more {n m : Nat} {l : List Int} (h : isR n m l = true) : isR (n + 1) m l = true := by
  refine allN_iff.2 fun k hk => ?_
  have h1 := allN_iff.1 h k hk
  simp only [stO, Bool.and_eq_true] at h1 ⊢
  refine ⟨wi_true_q7.2 ?_, h1.2⟩
  have := wi_true_q7.1 h1.1
  omega
theorem bump_all {g : Int} {l : List Int} (h : ∀ k ∈ l, g ≤ k) : ∀ k ∈ bump l, g ≤ k := by
  induction l with
  | nil => intro k hk; simp [bump] at hk
  | cons a l ih =>
    cases l with
    | nil =>
      intro k hk
      obtain rfl : k = a + 1 := by simpa [bump] using hk
      have := h a (by simp); omega
    | cons b l =>
      intro k hk
      rcases List.mem_cons.1 (show k ∈ a :: bump (b :: l) from hk) with rfl | hk
      · exact h k (by simp)
      · exact ih (fun u hu => h u (by simp at hu ⊢; exact .inr hu)) k hk
theorem spAt_app_lt {ls : List Sp} {s : Sp} {i : Nat} (h : i < ls.length) : spAt (ls ++ [s]) i = spAt ls i := by
  unfold spAt; rw [List.getD_eq_getElem?_getD, List.getD_eq_getElem?_getD, List.getElem?_append_left h]
theorem spAt_app_eq {ls : List Sp} {s : Sp} : spAt (ls ++ [s]) ls.length = s := by
  unfold spAt; rw [List.getD_eq_getElem?_getD]; simp
theorem good_more {q : Cb} {ls : List Sp} {n x : Nat} {s : Sp} (hx : x < 2 ^ n) (hn : n ≠ 0) (hb : x.testBit (n - 1) = false) (hl : ls.length = n) (hlo : q.need ≤ s.lo) (hle : s.lo ≤ s.hi) (h : goodB q ls n x = true) : goodB q (ls ++ [s]) (n + 1) x = true := by
  have hxn : x.testBit n = false := Nat.testBit_lt_two_pow hx
  have e0 : (n == 0) = false := by simpa using hn
  have hp : pcs x (n + 1) = bump (pcs x n) := by simp [pcs, hxn, hb, e0]
  rw [goodB_iff] at h ⊢
  obtain ⟨h1, h2, h3, h4, h5⟩ := h
  refine ⟨fun i hi => ?_, ?_, ?_, ?_, ?_⟩
  · rcases Nat.lt_succ_iff_lt_or_eq.1 hi with h' | rfl
    · rw [spAt_app_lt (by omega)]; exact h1 i h'
    · right; rw [← hl, spAt_app_eq]; omega
  · have e : dbt q.need (ls ++ [s]) x (n + 1) = dbt q.need ls x n := by
      unfold dbt
      rw [List.range_succ, List.filter_append]
      have : ([n].filter fun i => !x.testBit i && decide ((spAt (ls ++ [s]) i).lo < q.need)) = [] := by
        rw [List.filter_eq_nil_iff]
        intro i hi
        obtain rfl : i = n := by simpa using hi
        rw [← hl, spAt_app_eq]
        simp; omega
      rw [this, List.append_nil]
      congr 1
      refine List.filter_congr fun i hi => ?_
      rw [spAt_app_lt (by have := List.mem_range.1 hi; omega)]
    rw [e]; exact h2
  · have : (lefN x n).length ≤ (lefN x (n + 1)).length := by
      unfold lefN
      rw [List.range_succ, List.filter_append, List.length_append]; omega
    omega
  · unfold shk at h4 ⊢
    rw [hp, bump_len]; exact h4
  · rw [hp]; exact bump_all h5
theorem cnt_more {x n : Nat} (hx : x < 2 ^ n) : cntN x (n + 1) = cntN x n := by
  have hxn : x.testBit n = false := Nat.testBit_lt_two_pow hx
  unfold cntN memN
  rw [List.range_succ, List.filter_append]
  simp [hxn]
theorem mem_any (y n i : Nat) : (anyN (memN y n).length fun k => iAt (ints (memN y n)) k == (i : Int)) = (decide (i < n) && y.testBit i) := by
  rw [Bool.eq_iff_iff, anyN_iff, Bool.and_eq_true, decide_eq_true_eq]
  have hm : ∀ i, i ∈ memN y n ↔ i < n ∧ y.testBit i = true := fun i => by simp [memN, List.mem_filter]
  rw [← hm]
  constructor
  · rintro ⟨k, hk, e⟩
    rw [ints_at (List.getElem?_eq_getElem hk)] at e
    have : (memN y n)[k] = i := by simp at e; omega
    rw [← this]
    exact List.getElem_mem hk
  · intro h
    obtain ⟨k, hk, e⟩ := List.getElem_of_mem h
    exact ⟨k, hk, by rw [ints_at (List.getElem?_eq_getElem hk), e]; simp⟩
theorem gv_good {n m : Nat} {ls : List Sp} {q : Cb} {l : List Int} (h : ckC n ls q = true) (hr : isR n m l = true) : gvE n m ls q l = 0 ∧ gvG n m ls q l = goodB q ls n (ofK l m) := by
  have e : gvE n m ls q l = 0 := by rw [gvE, gv_ok h hr]
  exact ⟨e, by rw [gvG, e, gv_ok h hr]; rfl⟩
theorem ofK_lt2 {n m : Nat} {l : List Int} (hr : isR n m l = true) : ofK l m < 2 ^ n := ofK_lt (n := n) (Nat.le_refl m) (allN_iff.1 hr)
section
variable {n m : Nat} {ls : List Sp} {q : Cb} {l : List Int} {s : Sp}
theorem long_good (h : ckC n ls q = true) (h' : ckC (n + 1) (ls ++ [s]) q = true) (hl : ls.length = n) (hn : n ≠ 0) (hlo : q.need ≤ s.lo) (hr : isR n m l = true) (hni : (anyN m fun k => iAt l k == ((n : Int) - 1)) = false) :
    gvE n m ls q l = 0 ∧ gvE (n + 1) m (ls ++ [s]) q l = 0 ∧ (gvG n m ls q l = true → gvG (n + 1) m (ls ++ [s]) q l = true) := by
  obtain ⟨a1, a2⟩ := gv_good h hr
  obtain ⟨b1, b2⟩ := gv_good h' (isR_more hr)
  refine ⟨a1, b1, fun e => ?_⟩
  rw [a2] at e
  rw [b2]
  have hs := (okSp_of (by simp [hl]) h').2 n (by omega)
  rw [← hl, spAt_app_eq] at hs
  refine good_more (ofK_lt2 hr) hn ?_ hl hlo hs.2.1 e
  rw [ofK_bit fun j hj => (isR_nn hr j hj).1, show ((n - 1 : Nat) : Int) = (n : Int) - 1 by omega]
  exact hni
theorem long_vals (h : ckC n ls q = true) (h' : ckC (n + 1) (ls ++ [s]) q = true) (hl : ls.length = n) (hn : n ≠ 0) (hlo : q.need ≤ s.lo) :
    erS_q7 n ls q = 3 ∧ (erS_q7 (n + 1) (ls ++ [s]) q = 0 ∨ erS_q7 (n + 1) (ls ++ [s]) q = 3) ∨
    erS_q7 n ls q = 0 ∧ ((anyN (plC n ls q).length fun k => iAt (ints (plC n ls q)) k == ((n : Int) - 1)) = true ∧ (erS_q7 (n + 1) (ls ++ [s]) q = 0 ∨ erS_q7 (n + 1) (ls ++ [s]) q = 3) ∨
      (anyN (plC n ls q).length fun k => iAt (ints (plC n ls q)) k == ((n : Int) - 1)) = false ∧ erS_q7 (n + 1) (ls ++ [s]) q = 0 ∧ (plC (n + 1) (ls ++ [s]) q).length ≤ (plC n ls q).length) := by
  have h03 := (er_cases h').imp And.left And.left
  rcases er_cases h with ⟨z, hne⟩ | ⟨z, hne⟩
  · right
    refine ⟨z, ?_⟩
    have hpf := pl_few h hne
    have hpl : ∃ y, y ∈ shL q ls n ∧ plC n ls q = memN y n := by
      unfold fewO at hne
      unfold plC
      rw [h]
      cases e : shL q ls n with
      | nil => rw [e] at hne; exact absurd rfl hne
      | cons y r => exact ⟨y, by simp, rfl⟩
    obtain ⟨y, hy, hp⟩ := hpl
    obtain ⟨⟨y1, y2⟩, y3⟩ := shL_mem hy
    have hany := mem_any y n (n - 1)
    rw [show ((n - 1 : Nat) : Int) = (n : Int) - 1 by omega, ← hp, show decide (n - 1 < n) = true by simp; omega, Bool.true_and] at hany
    rw [hany]
    cases e : y.testBit (n - 1)
    · right
      have hs := (okSp_of (by simp [hl]) h').2 n (by omega)
      rw [← hl, spAt_app_eq] at hs
      have hg := good_more y1 hn e hl hlo hs.2.1 y2
      have hy' : y < 2 ^ (n + 1) := Nat.lt_of_lt_of_le y1 (Nat.pow_le_pow_right (by omega) (by omega))
      have hne' : fewO q (ls ++ [s]) (n + 1) ≠ none := fun e => by
        have := few_none.1 e y hy'
        rw [hg] at this; cases this
      refine ⟨rfl, (er_zero h').2 hne', ?_⟩
      have := (few_some (pl_few h' hne')).2 y hy' hg
      rw [cnt_more y1] at this
      rw [hp]
      exact this
    · exact .inl ⟨rfl, h03⟩
  · exact .inl ⟨z, h03⟩
end

end Go.Proofs.YtcbeiadimchknaaGreat
