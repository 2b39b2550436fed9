/- Line, Stock and Lost of scrap (layer 11). -/
import Derived.Test.YtdhlnlmhdacblaaTs38
namespace Go.Proofs.Ytdhlnlmhdacblaa
open Go.RowKit
open Go.Sort (grow)
set_option linter.unusedVariables false
set_option linter.unusedSimpArgs false

/-- the answer to a question for a span -/
def ansS (e : Int) (s : Sp) : Value := .tuple #[.agg #[.int .i64 (bif e == 0 then s.lo else 0), .int .i64 (bif e == 0 then s.hi else 0)], .int .i64 e]
theorem isNo_of {i : Int} {n : Nat} (h : isNo i n = true) : ∃ k : Nat, i = (k : Int) ∧ k < n := by
  simp only [isNo, wi_true_q11] at h
  exact ⟨i.toNat, by omega, by omega⟩
theorem askZ_zero {np nl : Nat} {pl : List Sp} {ls : List Ln} {wrg : Int} {is : Bool} (h : askZ np nl pl ls wrg is = 0) : ckBk np nl pl ls wrg = true ∧ is = true ∧ (truthSets np nl pl ls wrg).isEmpty = false := by
  unfold askZ at h
  cases h1 : ckBk np nl pl ls wrg <;> cases h2 : is <;> cases h3 : (truthSets np nl pl ls wrg).isEmpty <;> simp_all

set_option maxRecDepth 100000 in
set_option maxHeartbeats 1600000 in
theorem Line_c (Ap Al : Option Addr) (np cp nl cl : Nat) (wrg i : Int) (pl : List Sp) (ls : List Ln) (w : World) (hp : np ≤ 40) (hl : nl ≤ 40) (HP : SpsAt w Ap np pl) (HL : LnsAt w Al nl ls) :
    Calls Try.prog 22 #[.agg #[.slice Ap np cp, .slice Al nl cl, .int .i64 wrg], .int .i64 i] w
      fun e w' => e = .returned (ansS (askZ np nl pl ls wrg (isNo i nl)) (endsB np nl pl ls wrg (2 * i.toNat))) ∧ Below w.heap.size w w' := by
  have HPI := Lib.hid HP
  have HLI := Lib.hid HL
  clear HP HL
  obtain ⟨z, hz⟩ : ∃ z, askZ np nl pl ls wrg (isNo i nl) = z := ⟨_, rfl⟩
  have hzI := Lib.hid hz
  go_enter Try.func22, Try.ntmps22
  go_wp2_with fail
  go_name_world W hW
  obtain ⟨hB, hz⟩ := al2 hW
  obtain ⟨l_0, q_0, f_0⟩ := al2_0 hW
  obtain ⟨l_1, q_1, f_1⟩ := al2_1 hW
  have HZ := Lib.hid hz
  have zs := hB.size
  clear hW hz
  have hbW := hB
  have hcq := fun p : Regrown => (bcell (below_regrown W p.d p.os)).1
  refine wp_region_quiet_below (by kernel_rfl) (by kernel_rfl) ?_
  repeat (go_big_quiet_step (((first | (go_at_call 44; exact Calls.regrown_of (isLine_c _ _ _ _ _ _ _ _ _ (by assumption))) | (go_at_call 37; exact Calls.regrown_of (ask_c _ _ _ _ _ _ _ _ pl ls _ hp hl (HPI.out.later (hbW.trans ((below_regrown _ _ _).mono hbW.size))) (HLI.out.later (hbW.trans ((below_regrown _ _ _).mono hbW.size)))))))))
  refine wpQuiet_nil ?_
  intro w1 hq
  obtain ⟨pq, hq⟩ := hq
  have hb1 : Below W.heap.size W w1 := by rw [hq]; exact below_regrown _ _ _
  clear hq hcq pq
  obtain ⟨hc1, hf1⟩ := bcell hb1
  have z1 := hb1.size
  rw [hz]
  have d0 := fun i => (hc1 w.heap.size i (by omega)).trans (q_0 i)
  have d1 := fun i => (hc1 (w.heap.size + 1) i (by omega)).trans (q_1 i)
  have e1 := fun i => (hf1 (w.heap.size + 1) i (by omega)).trans (f_1 i)
  have m0 : w.heap.size < w1.heap.size := by omega
  have m1 : w.heap.size + 1 < w1.heap.size := by omega
  have hbw1 : Below w.heap.size w w1 := hB.trans (hb1.mono (by omega))
  clear hc1 hf1 hb1 hz hB hbW
  cases h0 : (z == 0)
  · have hne : z ≠ 0 := by simpa using h0
    go_wp2
    obtain ⟨x1, x2⟩ := two_cells (u := .int .i64 0) (v := .int .i64 0) (by simp) (d1 0) (d1 1)
    exact bodyPost_ret (v := ansS z (endsB np nl pl ls wrg (2 * i.toNat))) (by simp [results, Try.results22, go_sem, x1, x2, ansS, h0]) rfl ⟨by rw [hzI.out], by (repeat first | with_reducible assumption | with_reducible exact Below.refl _ _ | refine below_drewN ?_ _ | refine Below.drew ?_ | refine Below.alloc ?_ (by first | omega | (with_reducible exact Below.size (by assumption)) | (simp; done) | (simp; omega)) _ | refine Below.setCell ?_ (by first | omega | (with_reducible exact Below.size (by assumption)) | (simp; done) | (simp; omega)) _ | refine below_step (by assumption) (by first | omega | (with_reducible exact Below.size (by assumption)) | (simp; done) | (simp; omega)) ?_)⟩
  · obtain rfl : z = 0 := by simpa using h0
    obtain ⟨hck, hno, -⟩ := askZ_zero hzI.out
    obtain ⟨k, rfl, hk⟩ := isNo_of hno
    have hckI := Lib.hid hck
    have hsz : np ≤ 5 ∧ nl ≤ 8 := by
      have := (okBk_of HPI.out.1 HLI.out.1 hck).1
      exact ⟨this.hp, this.hl⟩
    have hw1 : IntKind.i64.wrap (2 * (k : Int)) = 2 * (k : Int) := IntWalk.i64_in _ (by omega)
    clear hck hno h0
    go_wp2_with fail
    go_at_call 39
    refine (endsB_c Ap Al np cp nl cl (2 * k) wrg pl ls _ (by omega) hckI.out (HPI.out.later (by (repeat first | with_reducible assumption | with_reducible exact Below.refl _ _ | refine below_drewN ?_ _ | refine Below.drew ?_ | refine Below.alloc ?_ (by first | omega | (with_reducible exact Below.size (by assumption)) | (simp; done) | (simp; omega)) _ | refine Below.setCell ?_ (by first | omega | (with_reducible exact Below.size (by assumption)) | (simp; done) | (simp; omega)) _ | refine below_step (by assumption) (by first | omega | (with_reducible exact Below.size (by assumption)) | (simp; done) | (simp; omega)) ?_))) (HLI.out.later (by (repeat first | with_reducible assumption | with_reducible exact Below.refl _ _ | refine below_drewN ?_ _ | refine Below.drew ?_ | refine Below.alloc ?_ (by first | omega | (with_reducible exact Below.size (by assumption)) | (simp; done) | (simp; omega)) _ | refine Below.setCell ?_ (by first | omega | (with_reducible exact Below.size (by assumption)) | (simp; done) | (simp; omega)) _ | refine below_step (by assumption) (by first | omega | (with_reducible exact Below.size (by assumption)) | (simp; done) | (simp; omega)) ?_)))).mono ?_
    (rintro e w2 ⟨rfl, hb2⟩; obtain ⟨hc2, hf2⟩ := bcell hb2; have zs2 := hb2.size; (try simp at zs2))
    have x0 := (hc2 (w.heap.size + 1) 0 (by omega)).trans (d1 0)
    have x1 := (hc2 (w.heap.size + 1) 1 (by omega)).trans (d1 1)
    have x2 := (hf2 (w.heap.size + 1) 0 (by omega)).trans (e1 0)
    have x3 := (hf2 (w.heap.size + 1) 1 (by omega)).trans (e1 1)
    go_wp2
    obtain ⟨y1, y2⟩ := two_cells (u := .int .i64 (endsB np nl pl ls wrg (2 * k)).lo) (v := .int .i64 (endsB np nl pl ls wrg (2 * k)).hi) (by simp) x0 x1
    exact bodyPost_ret (v := ansS 0 (endsB np nl pl ls wrg (2 * k))) (by simp [results, Try.results22, go_sem, y1, y2, ansS]) rfl ⟨by rw [hzI.out]; simp, by (repeat first | with_reducible assumption | with_reducible exact Below.refl _ _ | refine below_drewN ?_ _ | refine Below.drew ?_ | refine Below.alloc ?_ (by first | omega | (with_reducible exact Below.size (by assumption)) | (simp; done) | (simp; omega)) _ | refine Below.setCell ?_ (by first | omega | (with_reducible exact Below.size (by assumption)) | (simp; done) | (simp; omega)) _ | refine below_step (by assumption) (by first | omega | (with_reducible exact Below.size (by assumption)) | (simp; done) | (simp; omega)) ?_)⟩
set_option maxRecDepth 100000 in
set_option maxHeartbeats 1600000 in
theorem Stock_c (Ap Al : Option Addr) (np cp nl cl : Nat) (wrg i : Int) (pl : List Sp) (ls : List Ln) (w : World) (hp : np ≤ 40) (hl : nl ≤ 40) (HP : SpsAt w Ap np pl) (HL : LnsAt w Al nl ls) :
    Calls Try.prog 17 #[.agg #[.slice Ap np cp, .slice Al nl cl, .int .i64 wrg], .int .i64 i] w
      fun e w' => e = .returned (ansS (askZ np nl pl ls wrg (isNo i np)) (endsB np nl pl ls wrg (2 * nl + i.toNat))) ∧ Below w.heap.size w w' := by
  have HPI := Lib.hid HP
  have HLI := Lib.hid HL
  clear HP HL
  obtain ⟨z, hz⟩ : ∃ z, askZ np nl pl ls wrg (isNo i np) = z := ⟨_, rfl⟩
  have hzI := Lib.hid hz
  go_enter Try.func17, Try.ntmps17
  go_wp2_with fail
  go_name_world W hW
  obtain ⟨hB, hz⟩ := al2 hW
  obtain ⟨l_0, q_0, f_0⟩ := al2_0 hW
  obtain ⟨l_1, q_1, f_1⟩ := al2_1 hW
  have HZ := Lib.hid hz
  have zs := hB.size
  clear hW hz
  have hbW := hB
  have hcq := fun p : Regrown => (bcell (below_regrown W p.d p.os)).1
  refine wp_region_quiet_below (by kernel_rfl) (by kernel_rfl) ?_
  repeat (go_big_quiet_step (((first | (go_at_call 38; exact Calls.regrown_of (isPlace_c _ _ _ _ _ _ _ _ _ (by assumption))) | (go_at_call 37; exact Calls.regrown_of (ask_c _ _ _ _ _ _ _ _ pl ls _ hp hl (HPI.out.later (hbW.trans ((below_regrown _ _ _).mono hbW.size))) (HLI.out.later (hbW.trans ((below_regrown _ _ _).mono hbW.size)))))))))
  refine wpQuiet_nil ?_
  intro w1 hq
  obtain ⟨pq, hq⟩ := hq
  have hb1 : Below W.heap.size W w1 := by rw [hq]; exact below_regrown _ _ _
  clear hq hcq pq
  obtain ⟨hc1, hf1⟩ := bcell hb1
  have z1 := hb1.size
  rw [hz]
  have d0 := fun i => (hc1 w.heap.size i (by omega)).trans (q_0 i)
  have d1 := fun i => (hc1 (w.heap.size + 1) i (by omega)).trans (q_1 i)
  have e1 := fun i => (hf1 (w.heap.size + 1) i (by omega)).trans (f_1 i)
  have m0 : w.heap.size < w1.heap.size := by omega
  have m1 : w.heap.size + 1 < w1.heap.size := by omega
  have hbw1 : Below w.heap.size w w1 := hB.trans (hb1.mono (by omega))
  clear hc1 hf1 hb1 hz hB hbW
  cases h0 : (z == 0)
  · have hne : z ≠ 0 := by simpa using h0
    go_wp2
    obtain ⟨x1, x2⟩ := two_cells (u := .int .i64 0) (v := .int .i64 0) (by simp) (d1 0) (d1 1)
    exact bodyPost_ret (v := ansS z (endsB np nl pl ls wrg (2 * nl + i.toNat))) (by simp [results, Try.results17, go_sem, x1, x2, ansS, h0]) rfl ⟨by rw [hzI.out], by (repeat first | with_reducible assumption | with_reducible exact Below.refl _ _ | refine below_drewN ?_ _ | refine Below.drew ?_ | refine Below.alloc ?_ (by first | omega | (with_reducible exact Below.size (by assumption)) | (simp; done) | (simp; omega)) _ | refine Below.setCell ?_ (by first | omega | (with_reducible exact Below.size (by assumption)) | (simp; done) | (simp; omega)) _ | refine below_step (by assumption) (by first | omega | (with_reducible exact Below.size (by assumption)) | (simp; done) | (simp; omega)) ?_)⟩
  · obtain rfl : z = 0 := by simpa using h0
    obtain ⟨hck, hno, -⟩ := askZ_zero hzI.out
    obtain ⟨k, rfl, hk⟩ := isNo_of hno
    have hckI := Lib.hid hck
    have hsz : np ≤ 5 ∧ nl ≤ 8 := by
      have := (okBk_of HPI.out.1 HLI.out.1 hck).1
      exact ⟨this.hp, this.hl⟩
    have hw1 : IntKind.i64.wrap (2 * (nl : Int) + k) = 2 * (nl : Int) + k := IntWalk.i64_in _ (by omega)
    clear hck hno h0
    go_wp2_with fail
    go_at_call 39
    refine (endsB_c Ap Al np cp nl cl (2 * nl + k) wrg pl ls _ (by omega) hckI.out (HPI.out.later (by (repeat first | with_reducible assumption | with_reducible exact Below.refl _ _ | refine below_drewN ?_ _ | refine Below.drew ?_ | refine Below.alloc ?_ (by first | omega | (with_reducible exact Below.size (by assumption)) | (simp; done) | (simp; omega)) _ | refine Below.setCell ?_ (by first | omega | (with_reducible exact Below.size (by assumption)) | (simp; done) | (simp; omega)) _ | refine below_step (by assumption) (by first | omega | (with_reducible exact Below.size (by assumption)) | (simp; done) | (simp; omega)) ?_))) (HLI.out.later (by (repeat first | with_reducible assumption | with_reducible exact Below.refl _ _ | refine below_drewN ?_ _ | refine Below.drew ?_ | refine Below.alloc ?_ (by first | omega | (with_reducible exact Below.size (by assumption)) | (simp; done) | (simp; omega)) _ | refine Below.setCell ?_ (by first | omega | (with_reducible exact Below.size (by assumption)) | (simp; done) | (simp; omega)) _ | refine below_step (by assumption) (by first | omega | (with_reducible exact Below.size (by assumption)) | (simp; done) | (simp; omega)) ?_)))).mono ?_
    (rintro e w2 ⟨rfl, hb2⟩; obtain ⟨hc2, hf2⟩ := bcell hb2; have zs2 := hb2.size; (try simp at zs2))
    have x0 := (hc2 (w.heap.size + 1) 0 (by omega)).trans (d1 0)
    have x1 := (hc2 (w.heap.size + 1) 1 (by omega)).trans (d1 1)
    have x2 := (hf2 (w.heap.size + 1) 0 (by omega)).trans (e1 0)
    have x3 := (hf2 (w.heap.size + 1) 1 (by omega)).trans (e1 1)
    go_wp2
    obtain ⟨y1, y2⟩ := two_cells (u := .int .i64 (endsB np nl pl ls wrg (2 * nl + k)).lo) (v := .int .i64 (endsB np nl pl ls wrg (2 * nl + k)).hi) (by simp) x0 x1
    exact bodyPost_ret (v := ansS 0 (endsB np nl pl ls wrg (2 * nl + k))) (by simp [results, Try.results17, go_sem, y1, y2, ansS]) rfl ⟨by rw [hzI.out]; simp, by (repeat first | with_reducible assumption | with_reducible exact Below.refl _ _ | refine below_drewN ?_ _ | refine Below.drew ?_ | refine Below.alloc ?_ (by first | omega | (with_reducible exact Below.size (by assumption)) | (simp; done) | (simp; omega)) _ | refine Below.setCell ?_ (by first | omega | (with_reducible exact Below.size (by assumption)) | (simp; done) | (simp; omega)) _ | refine below_step (by assumption) (by first | omega | (with_reducible exact Below.size (by assumption)) | (simp; done) | (simp; omega)) ?_)⟩

set_option maxRecDepth 100000 in
set_option maxHeartbeats 1600000 in
theorem Lost_c (Ap Al : Option Addr) (np cp nl cl : Nat) (wrg : Int) (pl : List Sp) (ls : List Ln) (w : World) (hp : np ≤ 40) (hl : nl ≤ 40) (HP : SpsAt w Ap np pl) (HL : LnsAt w Al nl ls) :
    Calls Try.prog 20 #[.agg #[.slice Ap np cp, .slice Al nl cl, .int .i64 wrg]] w
      fun e w' => e = .returned (ansS (askZ np nl pl ls wrg true) (endsB np nl pl ls wrg (2 * nl + np))) ∧ Below w.heap.size w w' := by
  have HPI := Lib.hid HP
  have HLI := Lib.hid HL
  clear HP HL
  obtain ⟨z, hz⟩ : ∃ z, askZ np nl pl ls wrg true = z := ⟨_, rfl⟩
  have hzI := Lib.hid hz
  go_enter Try.func20, Try.ntmps20
  go_wp2_with fail
  go_at_call 37
  refine (ask_c Ap Al np cp nl cl wrg true pl ls _ hp hl (HPI.out.later (by (repeat first | with_reducible assumption | with_reducible exact Below.refl _ _ | refine below_drewN ?_ _ | refine Below.drew ?_ | refine Below.alloc ?_ (by first | omega | (with_reducible exact Below.size (by assumption)) | (simp; done) | (simp; omega)) _ | refine Below.setCell ?_ (by first | omega | (with_reducible exact Below.size (by assumption)) | (simp; done) | (simp; omega)) _ | refine below_step (by assumption) (by first | omega | (with_reducible exact Below.size (by assumption)) | (simp; done) | (simp; omega)) ?_))) (HLI.out.later (by (repeat first | with_reducible assumption | with_reducible exact Below.refl _ _ | refine below_drewN ?_ _ | refine Below.drew ?_ | refine Below.alloc ?_ (by first | omega | (with_reducible exact Below.size (by assumption)) | (simp; done) | (simp; omega)) _ | refine Below.setCell ?_ (by first | omega | (with_reducible exact Below.size (by assumption)) | (simp; done) | (simp; omega)) _ | refine below_step (by assumption) (by first | omega | (with_reducible exact Below.size (by assumption)) | (simp; done) | (simp; omega)) ?_)))).mono ?_
  (rintro e w1 ⟨rfl, hb1⟩; obtain ⟨hc1, hf1⟩ := bcell hb1; have zs1 := hb1.size; (try simp at zs1); have n1_0 : w.heap.size < w1.heap.size := (by omega); have n1_1 : w.heap.size + 1 < w1.heap.size := (by omega))
  rw [hz]
  have d0 := fun i => (hc1 w.heap.size i (by first | omega | (simp; done) | (simp; omega))).trans ((al2_0 rfl).2.1 i)
  have d1 := fun i => (hc1 (w.heap.size + 1) i (by first | omega | (simp; done) | (simp; omega))).trans ((al2_1 rfl).2.1 i)
  have e1 := fun i => (hf1 (w.heap.size + 1) i (by first | omega | (simp; done) | (simp; omega))).trans ((al2_1 rfl).2.2 i)
  have hbw1 : Below w.heap.size w w1 := by (repeat first | with_reducible assumption | with_reducible exact Below.refl _ _ | refine below_drewN ?_ _ | refine Below.drew ?_ | refine Below.alloc ?_ (by first | omega | (with_reducible exact Below.size (by assumption)) | (simp; done) | (simp; omega)) _ | refine Below.setCell ?_ (by first | omega | (with_reducible exact Below.size (by assumption)) | (simp; done) | (simp; omega)) _ | refine below_step (by assumption) (by first | omega | (with_reducible exact Below.size (by assumption)) | (simp; done) | (simp; omega)) ?_)
  clear hc1 hf1 hb1 hz
  cases h0 : (z == 0)
  · have hne : z ≠ 0 := by simpa using h0
    go_wp2
    obtain ⟨x1, x2⟩ := two_cells (u := .int .i64 0) (v := .int .i64 0) (by simp) (d1 0) (d1 1)
    exact bodyPost_ret (v := ansS z (endsB np nl pl ls wrg (2 * nl + np))) (by simp [results, Try.results20, go_sem, x1, x2, ansS, h0]) rfl ⟨by rw [hzI.out], by (repeat first | with_reducible assumption | with_reducible exact Below.refl _ _ | refine below_drewN ?_ _ | refine Below.drew ?_ | refine Below.alloc ?_ (by first | omega | (with_reducible exact Below.size (by assumption)) | (simp; done) | (simp; omega)) _ | refine Below.setCell ?_ (by first | omega | (with_reducible exact Below.size (by assumption)) | (simp; done) | (simp; omega)) _ | refine below_step (by assumption) (by first | omega | (with_reducible exact Below.size (by assumption)) | (simp; done) | (simp; omega)) ?_)⟩
  · obtain rfl : z = 0 := by simpa using h0
    obtain ⟨hck, -, -⟩ := askZ_zero hzI.out
    have hckI := Lib.hid hck
    have hsz : np ≤ 5 ∧ nl ≤ 8 := by
      have := (okBk_of HPI.out.1 HLI.out.1 hck).1
      exact ⟨this.hp, this.hl⟩
    have hw1 : IntKind.i64.wrap (2 * (nl : Int)) = 2 * nl := IntWalk.i64_in _ (by omega)
    have hw2 : IntKind.i64.wrap (2 * (nl : Int) + np) = 2 * nl + np := IntWalk.i64_in _ (by omega)
    clear hck h0
    go_wp2_with fail
    go_at_call 39
    refine (endsB_c Ap Al np cp nl cl (2 * nl + np) wrg pl ls _ (by omega) hckI.out (HPI.out.later (by (repeat first | with_reducible assumption | with_reducible exact Below.refl _ _ | refine below_drewN ?_ _ | refine Below.drew ?_ | refine Below.alloc ?_ (by first | omega | (with_reducible exact Below.size (by assumption)) | (simp; done) | (simp; omega)) _ | refine Below.setCell ?_ (by first | omega | (with_reducible exact Below.size (by assumption)) | (simp; done) | (simp; omega)) _ | refine below_step (by assumption) (by first | omega | (with_reducible exact Below.size (by assumption)) | (simp; done) | (simp; omega)) ?_))) (HLI.out.later (by (repeat first | with_reducible assumption | with_reducible exact Below.refl _ _ | refine below_drewN ?_ _ | refine Below.drew ?_ | refine Below.alloc ?_ (by first | omega | (with_reducible exact Below.size (by assumption)) | (simp; done) | (simp; omega)) _ | refine Below.setCell ?_ (by first | omega | (with_reducible exact Below.size (by assumption)) | (simp; done) | (simp; omega)) _ | refine below_step (by assumption) (by first | omega | (with_reducible exact Below.size (by assumption)) | (simp; done) | (simp; omega)) ?_)))).mono ?_
    (rintro e w2 ⟨rfl, hb2⟩; obtain ⟨hc2, hf2⟩ := bcell hb2; have zs2 := hb2.size; (try simp at zs2))
    have x0 := (hc2 (w.heap.size + 1) 0 (by omega)).trans (d1 0)
    have x1 := (hc2 (w.heap.size + 1) 1 (by omega)).trans (d1 1)
    have x2 := (hf2 (w.heap.size + 1) 0 (by omega)).trans (e1 0)
    have x3 := (hf2 (w.heap.size + 1) 1 (by omega)).trans (e1 1)
    go_wp2
    obtain ⟨y1, y2⟩ := two_cells (u := .int .i64 (endsB np nl pl ls wrg (2 * nl + np)).lo) (v := .int .i64 (endsB np nl pl ls wrg (2 * nl + np)).hi) (by simp) x0 x1
    exact bodyPost_ret (v := ansS 0 (endsB np nl pl ls wrg (2 * nl + np))) (by simp [results, Try.results20, go_sem, y1, y2, ansS]) rfl ⟨by rw [hzI.out], by (repeat first | with_reducible assumption | with_reducible exact Below.refl _ _ | refine below_drewN ?_ _ | refine Below.drew ?_ | refine Below.alloc ?_ (by first | omega | (with_reducible exact Below.size (by assumption)) | (simp; done) | (simp; omega)) _ | refine Below.setCell ?_ (by first | omega | (with_reducible exact Below.size (by assumption)) | (simp; done) | (simp; omega)) _ | refine below_step (by assumption) (by first | omega | (with_reducible exact Below.size (by assumption)) | (simp; done) | (simp; omega)) ?_)⟩

end Go.Proofs.Ytdhlnlmhdacblaa
