/- Far, ready, isAsk of the statements (layer 7). -/
import Derived.Test.YthjjakhmbgnnnaaWk7
namespace Go.Proofs.Ythjjakhmbgnnnaa
open Go.RowKit
open Go.Sort (grow)
set_option linter.unusedVariables false

def farC (n : Nat) (ls : List Sp) (q : Cb) : Bool := decide ((40 : Int) < n) || (ckC n ls q && decide ((8 : Int) < n))
def rdyC (n : Nat) (ls : List Sp) (q : Cb) : Bool := !farC n ls q && ckC n ls q
theorem rdyC_len {n : Nat} {ls : List Sp} {q : Cb} (h : rdyC n ls q = true) : n ≤ 8 ∧ ckC n ls q = true := by
  simp only [rdyC, farC, Bool.and_eq_true, Bool.not_eq_true', Bool.or_eq_false_iff, decide_eq_false_iff_not] at h
  obtain ⟨⟨h1, h2⟩, h3⟩ := h
  rw [h3] at h2
  simp at h2
  exact ⟨by omega, h3⟩
set_option maxRecDepth 100000 in
set_option maxHeartbeats 800000 in
theorem Far_c (A : Option Addr) (n c : Nat) (q : Cb) (ls : List Sp) (w : World) (HL : SpsAt w A n ls) :
    Calls Try.prog 22 #[.agg #[.slice A n c, .int .i64 q.need, .int .i64 q.gap, .int .i64 q.doubt, .int .i64 q.joins, .int .i64 q.least]] w fun e w' => e = .returned (.bool (farC n ls q)) ∧ Below w.heap.size w w' := by
  by_cases h40 : (40 : Int) < n
  · have hB : decide ((40 : Int) < n) = true := by simpa using h40
    have e1 : farC n ls q = true := by simp [farC, hB]
    rw [e1]
    go_enter Try.func22, Try.ntmps22
    go_wp2_with fail
    go_ret
    exact ⟨rfl, by (repeat first | with_reducible assumption | with_reducible exact Below.refl _ _ | (with_reducible refine Below.alloc ?_ ?side _; case side => (first | omega | (with_reducible exact Below.size (by assumption)) | (simp; done) | (simp; omega))) | (with_reducible refine Below.setCell ?_ ?side _; case side => (first | omega | (with_reducible exact Below.size (by assumption)) | (simp; done) | (simp; omega))) | with_reducible refine Below.drew ?_ | with_reducible refine below_drewN ?_ _ | (with_reducible refine below_step (by assumption) ?side ?_; case side => (first | omega | (with_reducible exact Below.size (by assumption)) | (simp; done) | (simp; omega))))⟩
  · have hB : decide ((40 : Int) < n) = false := by simpa using h40
    have hcc : ∀ W, Below w.heap.size w W → Calls Try.prog 31 #[.agg #[.slice A n c, .int .i64 q.need, .int .i64 q.gap, .int .i64 q.doubt, .int .i64 q.joins, .int .i64 q.least]] W fun e w' => e = .returned (.int .i64 (erC (ckC n ls q))) ∧ Below W.heap.size W w' := fun W hW =>
      refCheck_c A n c q ls W (by omega) (HL.later hW)
    cases hck : ckC n ls q
    · have e1 : farC n ls q = false := by simp [farC, hB, hck]
      rw [e1]
      rw [hck] at hcc
      replace hcc := Lib.hid hcc
      clear HL hck e1
      go_enter Try.func22, Try.ntmps22
      go_wp2_with (go_at_call 31; refine (hcc.out _ (by (repeat first | with_reducible assumption | with_reducible exact Below.refl _ _ | (with_reducible refine Below.alloc ?_ ?side _; case side => (first | omega | (with_reducible exact Below.size (by assumption)) | (simp; done) | (simp; omega))) | (with_reducible refine Below.setCell ?_ ?side _; case side => (first | omega | (with_reducible exact Below.size (by assumption)) | (simp; done) | (simp; omega))) | with_reducible refine Below.drew ?_ | with_reducible refine below_drewN ?_ _ | (with_reducible refine below_step (by assumption) ?side ?_; case side => (first | omega | (with_reducible exact Below.size (by assumption)) | (simp; done) | (simp; omega)))))).mono ?_; (rw [show erC false = 70 from rfl]); (rintro e w1 ⟨rfl, hb1⟩; obtain ⟨hc1, hf1⟩ := bcell hb1; have zs1 := hb1.size; (try simp at zs1); have n1_0 : w.heap.size < w1.heap.size := (by omega)))
      go_ret
      exact ⟨rfl, by (repeat first | with_reducible assumption | with_reducible exact Below.refl _ _ | (with_reducible refine Below.alloc ?_ ?side _; case side => (first | omega | (with_reducible exact Below.size (by assumption)) | (simp; done) | (simp; omega))) | (with_reducible refine Below.setCell ?_ ?side _; case side => (first | omega | (with_reducible exact Below.size (by assumption)) | (simp; done) | (simp; omega))) | with_reducible refine Below.drew ?_ | with_reducible refine below_drewN ?_ _ | (with_reducible refine below_step (by assumption) ?side ?_; case side => (first | omega | (with_reducible exact Below.size (by assumption)) | (simp; done) | (simp; omega))))⟩
    · have e1 : farC n ls q = decide ((8 : Int) < n) := by simp [farC, hB, hck]
      rw [e1]
      rw [hck] at hcc
      replace hcc := Lib.hid hcc
      clear HL hck e1
      go_enter Try.func22, Try.ntmps22
      cases h8 : decide ((8 : Int) < n)
      all_goals
        go_wp2_with (go_at_call 31; refine (hcc.out _ (by (repeat first | with_reducible assumption | with_reducible exact Below.refl _ _ | (with_reducible refine Below.alloc ?_ ?side _; case side => (first | omega | (with_reducible exact Below.size (by assumption)) | (simp; done) | (simp; omega))) | (with_reducible refine Below.setCell ?_ ?side _; case side => (first | omega | (with_reducible exact Below.size (by assumption)) | (simp; done) | (simp; omega))) | with_reducible refine Below.drew ?_ | with_reducible refine below_drewN ?_ _ | (with_reducible refine below_step (by assumption) ?side ?_; case side => (first | omega | (with_reducible exact Below.size (by assumption)) | (simp; done) | (simp; omega)))))).mono ?_; (rw [show erC true = 0 from rfl]); (rintro e w1 ⟨rfl, hb1⟩); have d0 := (fun j => (hb1.cell (p := ⟨w.heap.size, j, none⟩) (by simp)).trans ((al1_0 rfl).2.1 j)))
        go_ret
        exact ⟨rfl, by (repeat first | with_reducible assumption | with_reducible exact Below.refl _ _ | (with_reducible refine Below.alloc ?_ ?side _; case side => (first | omega | (with_reducible exact Below.size (by assumption)) | (simp; done) | (simp; omega))) | (with_reducible refine Below.setCell ?_ ?side _; case side => (first | omega | (with_reducible exact Below.size (by assumption)) | (simp; done) | (simp; omega))) | with_reducible refine Below.drew ?_ | with_reducible refine below_drewN ?_ _ | (with_reducible refine below_step (by assumption) ?side ?_; case side => (first | omega | (with_reducible exact Below.size (by assumption)) | (simp; done) | (simp; omega))))⟩
set_option maxRecDepth 100000 in
set_option maxHeartbeats 800000 in
theorem ready_c (A : Option Addr) (n c : Nat) (q : Cb) (ls : List Sp) (w : World) (HL : SpsAt w A n ls) :
    Calls Try.prog 12 #[.agg #[.slice A n c, .int .i64 q.need, .int .i64 q.gap, .int .i64 q.doubt, .int .i64 q.joins, .int .i64 q.least]] w fun e w' => e = .returned (.bool (rdyC n ls q)) ∧ Below w.heap.size w w' := by
  have hfc : ∀ W, Below w.heap.size w W → Calls Try.prog 22 #[.agg #[.slice A n c, .int .i64 q.need, .int .i64 q.gap, .int .i64 q.doubt, .int .i64 q.joins, .int .i64 q.least]] W fun e w' => e = .returned (.bool (farC n ls q)) ∧ Below W.heap.size W w' := fun W hW =>
    Far_c A n c q ls W (HL.later hW)
  cases hf : farC n ls q
  · have hn : n ≤ 40 := by
      simp only [farC, Bool.or_eq_false_iff, decide_eq_false_iff_not] at hf
      have := hf.1
      omega
    have hcc : ∀ W, Below w.heap.size w W → Calls Try.prog 31 #[.agg #[.slice A n c, .int .i64 q.need, .int .i64 q.gap, .int .i64 q.doubt, .int .i64 q.joins, .int .i64 q.least]] W fun e w' => e = .returned (.int .i64 (erC (ckC n ls q))) ∧ Below W.heap.size W w' := fun W hW =>
      refCheck_c A n c q ls W hn (HL.later hW)
    have e1 : rdyC n ls q = ckC n ls q := by simp [rdyC, hf]
    rw [hf] at hfc
    rw [e1]
    replace hfc := Lib.hid hfc
    clear HL hf e1
    cases hck : ckC n ls q
    · rw [hck] at hcc
      have e0 : erC false = 70 := rfl
      rw [e0] at hcc
      replace hcc := Lib.hid hcc
      clear hck e0
      go_enter Try.func12, Try.ntmps12
      go_wp2_with first | (go_at_call 22; refine (hfc.out _ (by (repeat first | with_reducible assumption | with_reducible exact Below.refl _ _ | (with_reducible refine Below.alloc ?_ ?side _; case side => (first | omega | (with_reducible exact Below.size (by assumption)) | (simp; done) | (simp; omega))) | (with_reducible refine Below.setCell ?_ ?side _; case side => (first | omega | (with_reducible exact Below.size (by assumption)) | (simp; done) | (simp; omega))) | with_reducible refine Below.drew ?_ | with_reducible refine below_drewN ?_ _ | (with_reducible refine below_step (by assumption) ?side ?_; case side => (first | omega | (with_reducible exact Below.size (by assumption)) | (simp; done) | (simp; omega)))))).mono ?_; (rintro e w1 ⟨rfl, hb1⟩); have d0 := (fun j => (hb1.cell (p := ⟨w.heap.size, j, none⟩) (by simp)).trans ((al1_0 rfl).2.1 j)); have z1 := hb1.size; (try simp at z1)) | (go_at_call 31; refine (hcc.out _ (by (repeat first | with_reducible assumption | with_reducible exact Below.refl _ _ | (with_reducible refine Below.alloc ?_ ?side _; case side => (first | omega | (with_reducible exact Below.size (by assumption)) | (simp; done) | (simp; omega))) | (with_reducible refine Below.setCell ?_ ?side _; case side => (first | omega | (with_reducible exact Below.size (by assumption)) | (simp; done) | (simp; omega))) | with_reducible refine Below.drew ?_ | with_reducible refine below_drewN ?_ _ | (with_reducible refine below_step (by assumption) ?side ?_; case side => (first | omega | (with_reducible exact Below.size (by assumption)) | (simp; done) | (simp; omega)))))).mono ?_; (rintro e w2 ⟨rfl, hb2⟩))
      go_ret
      exact ⟨rfl, by (repeat first | with_reducible assumption | with_reducible exact Below.refl _ _ | (with_reducible refine Below.alloc ?_ ?side _; case side => (first | omega | (with_reducible exact Below.size (by assumption)) | (simp; done) | (simp; omega))) | (with_reducible refine Below.setCell ?_ ?side _; case side => (first | omega | (with_reducible exact Below.size (by assumption)) | (simp; done) | (simp; omega))) | with_reducible refine Below.drew ?_ | with_reducible refine below_drewN ?_ _ | (with_reducible refine below_step (by assumption) ?side ?_; case side => (first | omega | (with_reducible exact Below.size (by assumption)) | (simp; done) | (simp; omega))))⟩
    · rw [hck] at hcc
      have e0 : erC true = 0 := rfl
      rw [e0] at hcc
      replace hcc := Lib.hid hcc
      clear hck e0
      go_enter Try.func12, Try.ntmps12
      go_wp2_with first | (go_at_call 22; refine (hfc.out _ (by (repeat first | with_reducible assumption | with_reducible exact Below.refl _ _ | (with_reducible refine Below.alloc ?_ ?side _; case side => (first | omega | (with_reducible exact Below.size (by assumption)) | (simp; done) | (simp; omega))) | (with_reducible refine Below.setCell ?_ ?side _; case side => (first | omega | (with_reducible exact Below.size (by assumption)) | (simp; done) | (simp; omega))) | with_reducible refine Below.drew ?_ | with_reducible refine below_drewN ?_ _ | (with_reducible refine below_step (by assumption) ?side ?_; case side => (first | omega | (with_reducible exact Below.size (by assumption)) | (simp; done) | (simp; omega)))))).mono ?_; (rintro e w1 ⟨rfl, hb1⟩); have d0 := (fun j => (hb1.cell (p := ⟨w.heap.size, j, none⟩) (by simp)).trans ((al1_0 rfl).2.1 j)); have z1 := hb1.size; (try simp at z1)) | (go_at_call 31; refine (hcc.out _ (by (repeat first | with_reducible assumption | with_reducible exact Below.refl _ _ | (with_reducible refine Below.alloc ?_ ?side _; case side => (first | omega | (with_reducible exact Below.size (by assumption)) | (simp; done) | (simp; omega))) | (with_reducible refine Below.setCell ?_ ?side _; case side => (first | omega | (with_reducible exact Below.size (by assumption)) | (simp; done) | (simp; omega))) | with_reducible refine Below.drew ?_ | with_reducible refine below_drewN ?_ _ | (with_reducible refine below_step (by assumption) ?side ?_; case side => (first | omega | (with_reducible exact Below.size (by assumption)) | (simp; done) | (simp; omega)))))).mono ?_; (rintro e w2 ⟨rfl, hb2⟩))
      go_ret
      exact ⟨rfl, by (repeat first | with_reducible assumption | with_reducible exact Below.refl _ _ | (with_reducible refine Below.alloc ?_ ?side _; case side => (first | omega | (with_reducible exact Below.size (by assumption)) | (simp; done) | (simp; omega))) | (with_reducible refine Below.setCell ?_ ?side _; case side => (first | omega | (with_reducible exact Below.size (by assumption)) | (simp; done) | (simp; omega))) | with_reducible refine Below.drew ?_ | with_reducible refine below_drewN ?_ _ | (with_reducible refine below_step (by assumption) ?side ?_; case side => (first | omega | (with_reducible exact Below.size (by assumption)) | (simp; done) | (simp; omega))))⟩
  · have e1 : rdyC n ls q = false := by simp [rdyC, hf]
    rw [hf] at hfc
    rw [e1]
    replace hfc := Lib.hid hfc
    clear HL hf e1
    go_enter Try.func12, Try.ntmps12
    go_wp2_with (go_at_call 22; refine (hfc.out _ (by (repeat first | with_reducible assumption | with_reducible exact Below.refl _ _ | (with_reducible refine Below.alloc ?_ ?side _; case side => (first | omega | (with_reducible exact Below.size (by assumption)) | (simp; done) | (simp; omega))) | (with_reducible refine Below.setCell ?_ ?side _; case side => (first | omega | (with_reducible exact Below.size (by assumption)) | (simp; done) | (simp; omega))) | with_reducible refine Below.drew ?_ | with_reducible refine below_drewN ?_ _ | (with_reducible refine below_step (by assumption) ?side ?_; case side => (first | omega | (with_reducible exact Below.size (by assumption)) | (simp; done) | (simp; omega)))))).mono ?_; (rintro e w1 ⟨rfl, hb1⟩))
    go_ret
    exact ⟨rfl, by (repeat first | with_reducible assumption | with_reducible exact Below.refl _ _ | (with_reducible refine Below.alloc ?_ ?side _; case side => (first | omega | (with_reducible exact Below.size (by assumption)) | (simp; done) | (simp; omega))) | (with_reducible refine Below.setCell ?_ ?side _; case side => (first | omega | (with_reducible exact Below.size (by assumption)) | (simp; done) | (simp; omega))) | with_reducible refine Below.drew ?_ | with_reducible refine below_drewN ?_ _ | (with_reducible refine below_step (by assumption) ?side ?_; case side => (first | omega | (with_reducible exact Below.size (by assumption)) | (simp; done) | (simp; omega))))⟩
def askC (link shackle cuts : Int) : Bool := wi link 0 999 && wi shackle 0 999 && wi cuts 0 12
theorem askC_iff {link shackle cuts : Int} : askC link shackle cuts = true ↔ (0 ≤ link ∧ link ≤ 999) ∧ (0 ≤ shackle ∧ shackle ≤ 999) ∧ 0 ≤ cuts ∧ cuts ≤ 12 := by
  unfold askC
  rw [Bool.and_eq_true, Bool.and_eq_true, wi_true, wi_true, wi_true]
  exact ⟨fun ⟨⟨a, b⟩, c⟩ => ⟨a, b, c⟩, fun ⟨a, b, c⟩ => ⟨⟨a, b⟩, c⟩⟩
set_option maxRecDepth 100000 in
set_option maxHeartbeats 800000 in
theorem isAsk_c (link shackle cuts : Int) (w : World) :
    Calls Try.prog 13 #[.agg #[.int .i64 link, .int .i64 shackle, .int .i64 cuts]] w fun e w' => e = .returned (.bool (askC link shackle cuts)) ∧ Below w.heap.size w w' := by
  have h1 : ∀ W, Calls Try.prog 21 #[.int .i64 link] W fun e W' => e = .returned (.bool (wi link 0 999)) ∧ W = W' := fun W => IsPrice_c _ _
  have h2 : ∀ W, Calls Try.prog 21 #[.int .i64 shackle] W fun e W' => e = .returned (.bool (wi shackle 0 999)) ∧ W = W' := fun W => IsPrice_c _ _
  have hask : Hid (askC link shackle cuts = (wi link 0 999 && wi shackle 0 999 && (decide (0 ≤ cuts) && decide (cuts ≤ 12)))) := rfl
  obtain ⟨cl, hcl⟩ : ∃ v, wi link 0 999 = v := ⟨_, rfl⟩
  obtain ⟨cs, hcs⟩ : ∃ v, wi shackle 0 999 = v := ⟨_, rfl⟩
  obtain ⟨r, hr⟩ : ∃ r, askC link shackle cuts = r := ⟨_, rfl⟩
  rw [hcl] at h1
  rw [hcs] at h2
  rw [hcl, hcs, hr] at hask
  rw [hr]
  replace h1 := Lib.hid h1
  replace h2 := Lib.hid h2
  clear hcl hcs hr
  cases cl <;> cases cs <;> cases e3 : decide (0 ≤ cuts) <;> cases e4 : decide (cuts ≤ 12)
  all_goals
    rw [e3, e4] at hask
    go_enter Try.func13, Try.ntmps13
    go_wp2_with (go_at_call 21; first | (with_reducible refine (h1.out _).mono ?_; rintro e w' ⟨rfl, rfl⟩) | (with_reducible refine (h2.out _).mono ?_; rintro e w' ⟨rfl, rfl⟩))
    go_ret
    exact ⟨by rw [hask.out]; rfl, by (repeat first | with_reducible assumption | with_reducible exact Below.refl _ _ | (with_reducible refine Below.alloc ?_ ?side _; case side => (first | omega | (with_reducible exact Below.size (by assumption)) | (simp; done) | (simp; omega))) | (with_reducible refine Below.setCell ?_ ?side _; case side => (first | omega | (with_reducible exact Below.size (by assumption)) | (simp; done) | (simp; omega))) | with_reducible refine Below.drew ?_ | with_reducible refine below_drewN ?_ _ | (with_reducible refine below_step (by assumption) ?side ?_; case side => (first | omega | (with_reducible exact Below.size (by assumption)) | (simp; done) | (simp; omega))))⟩

end Go.Proofs.Ythjjakhmbgnnnaa
