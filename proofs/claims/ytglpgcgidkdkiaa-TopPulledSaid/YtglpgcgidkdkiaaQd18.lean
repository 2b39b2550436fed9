/- The chapter's example reckoned (layer 7); Example of the statements (layer 7); works of the statements (layer 7): the chapter's examples; Far, ready, isAsk of the statements (layer 7). -/
import Derived.Test.YtglpgcgidkdkiaaQd17
import Derived.Test.YtglpgcgidkdkiaaQd08
namespace Go.Proofs.Ytglpgcgidkdkiaa
open Go.RowKit
open Go.Sort (grow)
set_option linter.unusedVariables false
set_option linter.unusedSimpArgs false

def exL7 : List Sp := [⟨50, 60⟩, ⟨30, 35⟩, ⟨50, 50⟩, ⟨38, 45⟩, ⟨55, 60⟩, ⟨60, 60⟩, ⟨52, 58⟩]
def exQ7 : Cb := ⟨40, 1, 0, 2, 1⟩
theorem ev_ck : ckC 7 exL7 exQ7 = true := by decide
theorem ev_er : erS_q7 7 exL7 exQ7 = 0 := by kernel_rfl
theorem ev_pl : (plC 7 exL7 exQ7).length = 2 := by kernel_rfl
theorem ev_mu : muL 7 exL7 exQ7 = [1, 3] := by kernel_rfl
theorem ev_ch : chR 7 exL7 exQ7 1 5 = (4, 0) := by kernel_rfl
theorem ev_ge : gvE 7 2 exL7 exQ7 [1, 3] = 0 := by kernel_rfl
theorem ev_gs : gvS 7 2 exL7 exQ7 [1, 3] = 2 := by kernel_rfl
theorem ev_st : strO exQ7 exL7 7 2 = some 50 := by
  have h1 : okB_q7 exQ7 exL7 7 2 50 = true := by kernel_rfl
  have h2 : ((cand exL7).all fun c => decide (c ≤ 50) || !okB_q7 exQ7 exL7 7 2 c) = true := by kernel_rfl
  have h3 : (50 : Int) ∈ cand exL7 := by decide
  rw [List.all_eq_true] at h2
  cases h : strO exQ7 exL7 7 2 with
  | none => have := srt_none.1 h 50 h3; rw [h1] at this; cases this
  | some b =>
    obtain ⟨a1, a2, a3⟩ := srt_spec h
    have b1 := a3 50 h3 h1
    have b2 := h2 b a1
    rw [a2] at b2
    simp at b2
    congr 1; omega
theorem ev_sr : stR 7 exL7 exQ7 2 = (50, 0) := by unfold stR; rw [ev_ck, ev_st]; rfl

end Go.Proofs.Ytglpgcgidkdkiaa

namespace Go.Proofs.Ytglpgcgidkdkiaa
open Go.RowKit
open Go.Sort (grow)
set_option linter.unusedVariables false
set_option linter.unusedSimpArgs false

theorem sl_cells_q7 {α : Type} {enc : α → List Value} {size : Nat} {d : α} (hs : ∀ x, (enc x).length = size) {w : World} {cs : Array Value} {ys : List α} {g m : Nat} (hg : g < w.heap.size) (hc : ∀ i, w.cell? ⟨g, i, none⟩ = cs[i]?) (hl : ys.length = m) (hcs : cs.toList = ys.flatMap enc) :
    SlAt enc size d w (some ⟨g, 0, none⟩) m ys := by
  refine ⟨hl, fun _ => ⟨g, 0, rfl, hg, fun k hk j u hu => ?_⟩⟩
  have hj : j < size := by
    have := (List.getElem?_eq_some_iff.1 hu).1
    rwa [hs] at this
  rw [hc, Nat.zero_add, ← Array.getElem?_toList, hcs, flat_get (d := d) hs ys k j hj (by omega)]
  exact hu
set_option maxRecDepth 100000 in
set_option maxHeartbeats 1600000 in
theorem Example_c_q7 (w : World) :
    Calls Try.prog 41 #[] w fun e w' => ∃ A, e = .returned (.agg #[.slice A 7 7, .int .i64 40, .int .i64 1, .int .i64 0, .int .i64 2, .int .i64 1]) ∧ SpsAt w' A 7 exL7 ∧ Below w.heap.size w w' := by
  go_enter Try.func41, Try.ntmps41
  go_wp2_with fail
  have hS : ∀ W : World, W.heap.size = w.heap.size + 1 → SpsAt (W.alloc (.cells #[.int .i64 50, .int .i64 60, .int .i64 30, .int .i64 35, .int .i64 50, .int .i64 50, .int .i64 38, .int .i64 45, .int .i64 55, .int .i64 60, .int .i64 60, .int .i64 60, .int .i64 52, .int .i64 58] 23)) (some ⟨w.heap.size + 1, 0, none⟩) 7 exL7 := fun W hW =>
    sps_iff.2 (sl_new encS_len hW rfl rfl)
  have hR : ∀ (W : World) (o : Obj), W.heap.size = w.heap.size → ∀ j, ((W.alloc (.cells #[.slice (some ⟨w.heap.size + 1, 0, none⟩) 7 7, .int .i64 40, .int .i64 1, .int .i64 0, .int .i64 2, .int .i64 1] 48)).alloc o).cell? ⟨w.heap.size, j, none⟩ = #[Value.slice (some ⟨w.heap.size + 1, 0, none⟩) 7 7, .int .i64 40, .int .i64 1, .int .i64 0, .int .i64 2, .int .i64 1][j]? := fun W o hW j => by
    rw [World.cell?_alloc_lt _ _ _ (by simp; omega), ← hW]
    exact World.cell?_alloc_new W _ _ j
  have hr := hR w (.cells #[.int .i64 50, .int .i64 60, .int .i64 30, .int .i64 35, .int .i64 50, .int .i64 50, .int .i64 38, .int .i64 45, .int .i64 55, .int .i64 60, .int .i64 60, .int .i64 60, .int .i64 52, .int .i64 58] 23) rfl
  refine bodyPost_ret (v := .agg #[.slice (some ⟨w.heap.size + 1, 0, none⟩) 7 7, .int .i64 40, .int .i64 1, .int .i64 0, .int .i64 2, .int .i64 1]) ?_ rfl ⟨some ⟨w.heap.size + 1, 0, none⟩, rfl, hS _ (by simp), by (repeat first | with_reducible assumption | with_reducible exact Below.refl _ _ | (with_reducible refine Below.alloc ?_ ?side _; case side => (first | omega | (with_reducible exact Below.size (by assumption)) | (simp; done) | (simp; omega))) | (with_reducible refine Below.setCell ?_ ?side _; case side => (first | omega | (with_reducible exact Below.size (by assumption)) | (simp; done) | (simp; omega))) | with_reducible refine Below.drew ?_ | with_reducible refine below_drewN ?_ _ | (with_reducible refine below_step (by assumption) ?side ?_; case side => (first | omega | (with_reducible exact Below.size (by assumption)) | (simp; done) | (simp; omega))))⟩
  simp [results, Try.results41, go_sem, hr]

end Go.Proofs.Ytglpgcgidkdkiaa

namespace Go.Proofs.Ytglpgcgidkdkiaa
open Go.RowKit
open Go.Sort (grow)
set_option linter.unusedVariables false
set_option linter.unusedSimpArgs false

theorem ev_same7 : (2 == 2 && allN 2 fun k => iAt [1, 3] k == iAt [1, 3] k) = true := by decide

end Go.Proofs.Ytglpgcgidkdkiaa

namespace Go.Proofs.Ytglpgcgidkdkiaa
open Go.RowKit
open Go.Sort (grow)
set_option linter.unusedVariables false
set_option linter.unusedSimpArgs false

def farC (n : Nat) (ls : List Sp) (q : Cb) : Bool := decide ((40 : Int) < n) || (ckC n ls q && decide ((8 : Int) < n))
def rdyC (n : Nat) (ls : List Sp) (q : Cb) : Bool := !farC n ls q && ckC n ls q
theorem rdyC_len {n : Nat} {ls : List Sp} {q : Cb} (h : rdyC n ls q = true) : n ≤ 8 ∧ ckC n ls q = true := by
  simp only [rdyC, farC, Bool.and_eq_true, Bool.not_eq_true', Bool.or_eq_false_iff, decide_eq_false_iff_not] at h
  obtain ⟨⟨h1, h2⟩, h3⟩ := h
  rw [h3] at h2
  simp at h2
  exact ⟨by omega, h3⟩
set_option maxRecDepth 100000 in
set_option maxHeartbeats 800000 in
theorem Far_c_q7 (A : Option Addr) (n c : Nat) (q : Cb) (ls : List Sp) (w : World) (HL : SpsAt w A n ls) :
    Calls Try.prog 15 #[.agg #[.slice A n c, .int .i64 q.need, .int .i64 q.gap, .int .i64 q.doubt, .int .i64 q.joins, .int .i64 q.least]] w fun e w' => e = .returned (.bool (farC n ls q)) ∧ Below w.heap.size w w' := by
  by_cases h40 : (40 : Int) < n
  · have hB : decide ((40 : Int) < n) = true := by simpa using h40
    have e1 : farC n ls q = true := by simp [farC, hB]
    rw [e1]
    go_enter Try.func15, Try.ntmps15
    go_wp2_with fail
    go_ret
    exact ⟨rfl, by (repeat first | with_reducible assumption | with_reducible exact Below.refl _ _ | (with_reducible refine Below.alloc ?_ ?side _; case side => (first | omega | (with_reducible exact Below.size (by assumption)) | (simp; done) | (simp; omega))) | (with_reducible refine Below.setCell ?_ ?side _; case side => (first | omega | (with_reducible exact Below.size (by assumption)) | (simp; done) | (simp; omega))) | with_reducible refine Below.drew ?_ | with_reducible refine below_drewN ?_ _ | (with_reducible refine below_step (by assumption) ?side ?_; case side => (first | omega | (with_reducible exact Below.size (by assumption)) | (simp; done) | (simp; omega))))⟩
  · have hB : decide ((40 : Int) < n) = false := by simpa using h40
    have hcc : ∀ W, Below w.heap.size w W → Calls Try.prog 16 #[.agg #[.slice A n c, .int .i64 q.need, .int .i64 q.gap, .int .i64 q.doubt, .int .i64 q.joins, .int .i64 q.least]] W fun e w' => e = .returned (.int .i64 (erC (ckC n ls q))) ∧ Below W.heap.size W w' := fun W hW =>
      refCheck_c_q7 A n c q ls W (by omega) (HL.later hW)
    cases hck : ckC n ls q
    · have e1 : farC n ls q = false := by simp [farC, hB, hck]
      rw [e1]
      rw [hck] at hcc
      replace hcc := Lib.hid hcc
      clear HL hck e1
      go_enter Try.func15, Try.ntmps15
      go_wp2_with (go_at_call 16; refine (hcc.out _ (by (repeat first | with_reducible assumption | with_reducible exact Below.refl _ _ | (with_reducible refine Below.alloc ?_ ?side _; case side => (first | omega | (with_reducible exact Below.size (by assumption)) | (simp; done) | (simp; omega))) | (with_reducible refine Below.setCell ?_ ?side _; case side => (first | omega | (with_reducible exact Below.size (by assumption)) | (simp; done) | (simp; omega))) | with_reducible refine Below.drew ?_ | with_reducible refine below_drewN ?_ _ | (with_reducible refine below_step (by assumption) ?side ?_; case side => (first | omega | (with_reducible exact Below.size (by assumption)) | (simp; done) | (simp; omega)))))).mono ?_; (rw [show erC false = 70 from rfl]); (rintro e w1 ⟨rfl, hb1⟩; obtain ⟨hc1, hf1⟩ := bcell hb1; have zs1 := hb1.size; (try simp at zs1); have n1_0 : w.heap.size < w1.heap.size := (by omega)))
      go_ret
      exact ⟨rfl, by (repeat first | with_reducible assumption | with_reducible exact Below.refl _ _ | (with_reducible refine Below.alloc ?_ ?side _; case side => (first | omega | (with_reducible exact Below.size (by assumption)) | (simp; done) | (simp; omega))) | (with_reducible refine Below.setCell ?_ ?side _; case side => (first | omega | (with_reducible exact Below.size (by assumption)) | (simp; done) | (simp; omega))) | with_reducible refine Below.drew ?_ | with_reducible refine below_drewN ?_ _ | (with_reducible refine below_step (by assumption) ?side ?_; case side => (first | omega | (with_reducible exact Below.size (by assumption)) | (simp; done) | (simp; omega))))⟩
    · have e1 : farC n ls q = decide ((8 : Int) < n) := by simp [farC, hB, hck]
      rw [e1]
      rw [hck] at hcc
      replace hcc := Lib.hid hcc
      clear HL hck e1
      go_enter Try.func15, Try.ntmps15
      cases h8 : decide ((8 : Int) < n)
      all_goals
        go_wp2_with (go_at_call 16; refine (hcc.out _ (by (repeat first | with_reducible assumption | with_reducible exact Below.refl _ _ | (with_reducible refine Below.alloc ?_ ?side _; case side => (first | omega | (with_reducible exact Below.size (by assumption)) | (simp; done) | (simp; omega))) | (with_reducible refine Below.setCell ?_ ?side _; case side => (first | omega | (with_reducible exact Below.size (by assumption)) | (simp; done) | (simp; omega))) | with_reducible refine Below.drew ?_ | with_reducible refine below_drewN ?_ _ | (with_reducible refine below_step (by assumption) ?side ?_; case side => (first | omega | (with_reducible exact Below.size (by assumption)) | (simp; done) | (simp; omega)))))).mono ?_; (rw [show erC true = 0 from rfl]); (rintro e w1 ⟨rfl, hb1⟩); have d0 := (fun j => (hb1.cell (p := ⟨w.heap.size, j, none⟩) (by simp)).trans ((al1_0 rfl).2.1 j)))
        go_ret
        exact ⟨rfl, by (repeat first | with_reducible assumption | with_reducible exact Below.refl _ _ | (with_reducible refine Below.alloc ?_ ?side _; case side => (first | omega | (with_reducible exact Below.size (by assumption)) | (simp; done) | (simp; omega))) | (with_reducible refine Below.setCell ?_ ?side _; case side => (first | omega | (with_reducible exact Below.size (by assumption)) | (simp; done) | (simp; omega))) | with_reducible refine Below.drew ?_ | with_reducible refine below_drewN ?_ _ | (with_reducible refine below_step (by assumption) ?side ?_; case side => (first | omega | (with_reducible exact Below.size (by assumption)) | (simp; done) | (simp; omega))))⟩
def askC (link shackle cuts : Int) : Bool := wi_q7 link 0 999 && wi_q7 shackle 0 999 && wi_q7 cuts 0 12
theorem askC_iff {link shackle cuts : Int} : askC link shackle cuts = true ↔ (0 ≤ link ∧ link ≤ 999) ∧ (0 ≤ shackle ∧ shackle ≤ 999) ∧ 0 ≤ cuts ∧ cuts ≤ 12 := by
  unfold askC
  rw [Bool.and_eq_true, Bool.and_eq_true, wi_true_q7, wi_true_q7, wi_true_q7]
  exact ⟨fun ⟨⟨a, b⟩, c⟩ => ⟨a, b, c⟩, fun ⟨a, b, c⟩ => ⟨⟨a, b⟩, c⟩⟩

end Go.Proofs.Ytglpgcgidkdkiaa
