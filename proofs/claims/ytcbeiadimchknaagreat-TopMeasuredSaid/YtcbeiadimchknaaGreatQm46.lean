/- Strong of repairs (layer 7); The chapter's example reckoned (layer 7); Example of the statements (layer 7). -/
import Derived.Test.YtcbeiadimchknaaGreatQm38
import Derived.Test.YtcbeiadimchknaaGreatQm45
namespace Go.Proofs.YtcbeiadimchknaaGreat
open Go.RowKit
open Go.Sort (grow)
set_option linter.unusedVariables false
set_option linter.unusedSimpArgs false

attribute [local go_sem] Oper.semAt_some

theorem ck_at {n : Nat} {ls : List Sp} {q : Cb} (hl : ls.length = n) (h : ckC n ls q = true) {v : Int} (hv : v ∈ cand ls) : ckC n ls (q.at_ v) = true := by
  simp only [ckC, Bool.and_eq_true] at h ⊢
  obtain ⟨⟨h1, h2, h3⟩, h4⟩ := h
  refine ⟨⟨h1, wi_true_q7.2 ?_, h3⟩, h4⟩
  show 0 ≤ v ∧ v ≤ 9999
  rcases cand_mem.1 hv with rfl | ⟨i, hi, hvi⟩
  · omega
  · have := allN_iff.1 h4 i (by omega)
    simp only [ckSp7, Bool.not_eq_true', Bool.or_eq_false_iff, Bool.not_eq_false', decide_eq_false_iff_not] at this
    have h5 := wi_true_q7.1 this.1
    have h6 := this.2
    rcases hvi with rfl | rfl <;> omega
def cndK (ls : List Sp) (k : Nat) : List Int := 9999 :: (ls.take k).flatMap fun s => [s.lo, s.hi]
theorem cndK_all {ls : List Sp} {n : Nat} (hl : ls.length = n) : cndK ls n = cand ls := by unfold cndK cand; rw [← hl, List.take_length]
theorem cndK_succ {ls : List Sp} {k : Nat} (hk : k < ls.length) : cndK ls (k + 1) = cndK ls k ++ [(spAt ls k).lo, (spAt ls k).hi] := by
  unfold cndK
  rw [List.take_add_one, List.getElem?_eq_getElem hk, List.flatMap_append]
  have : spAt ls k = ls[k] := by simp [spAt, List.getD_eq_getElem?_getD, hk]
  rw [this]; simp
theorem cndK_len {ls : List Sp} {k : Nat} (hk : k ≤ ls.length) : (cndK ls k).length = 2 * k + 1 := by
  induction k with
  | zero => rfl
  | succ k ih => rw [cndK_succ (by omega), List.length_append, ih (by omega)]; simp; omega
theorem okB_run {n : Nat} {ls : List Sp} {q : Cb} {cuts v : Int} (h : ckC n ls (q.at_ v) = true) : okB_q7 q ls n cuts v = (erS_q7 n ls (q.at_ v) == 0 && decide (((plC n ls (q.at_ v)).length : Int) ≤ cuts)) := by
  unfold okB_q7 fewO erS_q7 plC
  rw [h]
  cases shL (q.at_ v) ls n with
  | nil => rfl
  | cons y r => simp [cntN]
theorem Fr.tame {bo base B : Nat} {w W W' : World} (h : Fr bo base w W) (hB : base ≤ B) (ht : Tame B W W') : Fr bo base w W' :=
  ⟨ht.os.trans h.os, ht.tape.trans h.tape, ht.output.trans h.output, Nat.le_trans h.size ht.size, fun g h1 h2 h3 => by
    rcases ht.same g (Nat.lt_of_lt_of_le h1 h.size) with h4 | ⟨h4, _⟩
    · exact h4.trans (h.same g h1 h2 h3)
    · omega⟩
theorem rev_at {zs : List Int} {m j i : Nat} (hl : zs.length = m) (h : (List.range m).reverse[j]? = some i) : j < m ∧ i < m ∧ zs.reverse[j]? = some (iAt zs i) := by
  have hj : j < m := by have := (List.getElem?_eq_some_iff.1 h).1; simpa using this
  rw [List.getElem?_reverse (by simpa using hj), List.length_range, List.getElem?_range (by omega)] at h
  obtain rfl : m - 1 - j = i := by simpa using h
  refine ⟨hj, by omega, ?_⟩
  rw [List.getElem?_reverse (by omega), hl]
  simp [iAt, List.getD_eq_getElem?_getD, List.getElem?_eq_getElem (show m - 1 - j < zs.length by omega)]
theorem str_some {q : Cb} {ls zs : List Sp} {n : Nat} {cuts v : Int} {l : List Int} {j : Nat} (hj : l[j]? = some v) (ho : okB_q7 q ls n cuts v = true) (hm : ∀ i, i < j → ∀ u, l[i]? = some u → okB_q7 q ls n cuts u = false) : l.find? (okB_q7 q ls n cuts) = some v := by
  rw [List.find?_eq_some_iff_getElem]
  obtain ⟨h1, h2⟩ := List.getElem?_eq_some_iff.1 hj
  exact ⟨ho, j, h1, h2, fun i hi => by rw [hm i hi _ (List.getElem?_eq_getElem (by omega))]; rfl⟩
theorem str_none {q : Cb} {ls : List Sp} {n : Nat} {cuts : Int} {l : List Int} (hm : ∀ i, i < l.length → ∀ u, l[i]? = some u → okB_q7 q ls n cuts u = false) : l.find? (okB_q7 q ls n cuts) = none := by
  rw [List.find?_eq_none]
  intro x hx
  obtain ⟨i, hi, e⟩ := List.getElem_of_mem hx
  rw [hm i hi x (by rw [List.getElem?_eq_getElem hi, e])]
  simp
theorem ints_fr {bo base n : Nat} {b o : Nat} {xs : List Int} {W W' : World} (h : IntsAt W (some ⟨b, o, none⟩) n xs) (hf : Fr bo base W W') (h1 : b ≠ bo) (h2 : b < base) : IntsAt W' (some ⟨b, o, none⟩) n xs := by
  refine ⟨h.1, fun hn => ?_⟩
  obtain ⟨b', o', e, hb, hc⟩ := h.2 hn
  obtain ⟨rfl, rfl⟩ : b = b' ∧ o = o' := by simpa using e
  exact ⟨b, o, rfl, Nat.lt_of_lt_of_le hb hf.size, fun k hk j u hu => (hf.cell (p := ⟨b, o + k * 1 + j, none⟩) hb h1 h2).trans (hc k hk j u hu)⟩
/-- what Strong hands back: a strength, an error -/
def stO2 : Option Int → Int × Int
  | some b => (b, 0)
  | none => (0, 3)
def stR (n : Nat) (ls : List Sp) (q : Cb) (cuts : Int) : Int × Int := bif ckC n ls q then (bif wi_q7 cuts 0 12 then stO2 (strO q ls n cuts) else (0, 1)) else (0, 70)

end Go.Proofs.YtcbeiadimchknaaGreat

namespace Go.Proofs.YtcbeiadimchknaaGreat
open Go.RowKit
open Go.Sort (grow)
set_option linter.unusedVariables false
set_option linter.unusedSimpArgs false

def exL7 : List Sp := [⟨50, 60⟩, ⟨30, 35⟩, ⟨50, 50⟩, ⟨38, 45⟩, ⟨55, 60⟩, ⟨60, 60⟩, ⟨52, 58⟩]
def exQ7 : Cb := ⟨40, 1, 0, 2, 1⟩
theorem ev_ck : ckC 7 exL7 exQ7 = true := by decide
theorem ev_er : erS_q7 7 exL7 exQ7 = 0 := by kernel_rfl
theorem ev_pl : (plC 7 exL7 exQ7).length = 2 := by kernel_rfl
theorem ev_mu : muL 7 exL7 exQ7 = [1, 3] := by kernel_rfl
theorem ev_ch : chR 7 exL7 exQ7 1 5 = (4, 0) := by kernel_rfl
theorem ev_ge : gvE 7 2 exL7 exQ7 [1, 3] = 0 := by kernel_rfl
theorem ev_gs : gvS 7 2 exL7 exQ7 [1, 3] = 2 := by kernel_rfl
theorem ev_st : strO exQ7 exL7 7 2 = some 50 := by
  have h1 : okB_q7 exQ7 exL7 7 2 50 = true := by kernel_rfl
  have h2 : ((cand exL7).all fun c => decide (c ≤ 50) || !okB_q7 exQ7 exL7 7 2 c) = true := by kernel_rfl
  have h3 : (50 : Int) ∈ cand exL7 := by decide
  rw [List.all_eq_true] at h2
  cases h : strO exQ7 exL7 7 2 with
  | none => have := srt_none.1 h 50 h3; rw [h1] at this; cases this
  | some b =>
    obtain ⟨a1, a2, a3⟩ := srt_spec h
    have b1 := a3 50 h3 h1
    have b2 := h2 b a1
    rw [a2] at b2
    simp at b2
    congr 1; omega
theorem ev_sr : stR 7 exL7 exQ7 2 = (50, 0) := by unfold stR; rw [ev_ck, ev_st]; rfl

end Go.Proofs.YtcbeiadimchknaaGreat

namespace Go.Proofs.YtcbeiadimchknaaGreat
open Go.RowKit
open Go.Sort (grow)
set_option linter.unusedVariables false
set_option linter.unusedSimpArgs false

theorem sl_cells_q7 {α : Type} {enc : α → List Value} {size : Nat} {d : α} (hs : ∀ x, (enc x).length = size) {w : World} {cs : Array Value} {ys : List α} {g m : Nat} (hg : g < w.heap.size) (hc : ∀ i, w.cell? ⟨g, i, none⟩ = cs[i]?) (hl : ys.length = m) (hcs : cs.toList = ys.flatMap enc) :
    SlAt enc size d w (some ⟨g, 0, none⟩) m ys := by
  refine ⟨hl, fun _ => ⟨g, 0, rfl, hg, fun k hk j u hu => ?_⟩⟩
  have hj : j < size := by
    have := (List.getElem?_eq_some_iff.1 hu).1
    rwa [hs] at this
  rw [hc, Nat.zero_add, ← Array.getElem?_toList, hcs, flat_get (d := d) hs ys k j hj (by omega)]
  exact hu
set_option maxRecDepth 100000 in
set_option maxHeartbeats 1600000 in
theorem Example_c_q7 (w : World) :
    Calls Tryz.prog 24 #[] w fun e w' => ∃ A, e = .returned (.agg #[.slice A 7 7, .int .i64 40, .int .i64 1, .int .i64 0, .int .i64 2, .int .i64 1]) ∧ SpsAt w' A 7 exL7 ∧ Below w.heap.size w w' := by
  go_enter Tryz.func24, Tryz.ntmps24
  go_wp2_with fail
  have hS : ∀ W : World, W.heap.size = w.heap.size + 1 → SpsAt (W.alloc (.cells #[.int .i64 50, .int .i64 60, .int .i64 30, .int .i64 35, .int .i64 50, .int .i64 50, .int .i64 38, .int .i64 45, .int .i64 55, .int .i64 60, .int .i64 60, .int .i64 60, .int .i64 52, .int .i64 58] 34)) (some ⟨w.heap.size + 1, 0, none⟩) 7 exL7 := fun W hW =>
    sps_iff.2 (sl_new encS_len hW rfl rfl)
  have hR : ∀ (W : World) (o : Obj), W.heap.size = w.heap.size → ∀ j, ((W.alloc (.cells #[.slice (some ⟨w.heap.size + 1, 0, none⟩) 7 7, .int .i64 40, .int .i64 1, .int .i64 0, .int .i64 2, .int .i64 1] 24)).alloc o).cell? ⟨w.heap.size, j, none⟩ = #[Value.slice (some ⟨w.heap.size + 1, 0, none⟩) 7 7, .int .i64 40, .int .i64 1, .int .i64 0, .int .i64 2, .int .i64 1][j]? := fun W o hW j => by
    rw [World.cell?_alloc_lt _ _ _ (by simp; omega), ← hW]
    exact World.cell?_alloc_new W _ _ j
  have hr := hR w (.cells #[.int .i64 50, .int .i64 60, .int .i64 30, .int .i64 35, .int .i64 50, .int .i64 50, .int .i64 38, .int .i64 45, .int .i64 55, .int .i64 60, .int .i64 60, .int .i64 60, .int .i64 52, .int .i64 58] 34) rfl
  refine bodyPost_ret (v := .agg #[.slice (some ⟨w.heap.size + 1, 0, none⟩) 7 7, .int .i64 40, .int .i64 1, .int .i64 0, .int .i64 2, .int .i64 1]) ?_ rfl ⟨some ⟨w.heap.size + 1, 0, none⟩, rfl, hS _ (by simp), by (repeat first | with_reducible assumption | with_reducible exact Below.refl _ _ | (with_reducible refine Below.alloc ?_ ?side _; case side => (first | omega | (with_reducible exact Below.size (by assumption)) | (simp; done) | (simp; omega))) | (with_reducible refine Below.setCell ?_ ?side _; case side => (first | omega | (with_reducible exact Below.size (by assumption)) | (simp; done) | (simp; omega))) | with_reducible refine Below.drew ?_ | with_reducible refine below_drewN ?_ _ | (with_reducible refine below_step (by assumption) ?side ?_; case side => (first | omega | (with_reducible exact Below.size (by assumption)) | (simp; done) | (simp; omega))))⟩
  simp [results, Tryz.results24, go_sem, hr]

end Go.Proofs.YtcbeiadimchknaaGreat
