/- Line, Stock and Lost of the specification (layer 11). -/
import Derived.Test.YtoehifincdflhaaLo11
import Derived.Test.YtoehifincdflhaaLi11
import Derived.Test.YtoehifincdflhaaSt11
namespace Go.Proofs.Ytoehifincdflhaa
open Go.RowKit
open Go.Sort (grow)
set_option linter.unusedVariables false

theorem askF_zero {np nl : Nat} {pl : List Sp} {ls : List Ln} {wrg : Int} {is : Bool} (h : askF np nl pl ls wrg is = 0) : ckBk np nl pl ls wrg = true ∧ is = true ∧ (loL np nl pl ls wrg).isEmpty = false := by
  unfold askF at h
  cases h1 : ckBk np nl pl ls wrg <;> cases h2 : is <;> cases h3 : (loL np nl pl ls wrg).isEmpty <;> simp_all
theorem keep3 {wr w' : World} {p0 p1 p2 : Addr} {v0 v1 v2 : Value} (hb : Below wr.heap.size wr w') (h0 : wr.cell? p0 = some v0) (h1 : wr.cell? p1 = some v1) (h2 : wr.cell? p2 = some v2)
    (l0 : p0.block < wr.heap.size) (l1 : p1.block < wr.heap.size) (l2 : p2.block < wr.heap.size) : w'.cell? p0 = some v0 ∧ w'.cell? p1 = some v1 ∧ w'.cell? p2 = some v2 :=
  ⟨(hb.cell l0).trans h0, (hb.cell l1).trans h1, (hb.cell l2).trans h2⟩

set_option maxRecDepth 100000 in
set_option maxHeartbeats 1600000 in
theorem refLine_c (Ap Al : Option Addr) (np cp nl cl : Nat) (wrg i : Int) (pl : List Sp) (ls : List Ln) (w : World) (hp : np ≤ 40) (hl : nl ≤ 40) (HP : SpsAt w Ap np pl) (HL : LnsAt w Al nl ls) :
    Calls Try.prog 30 #[.agg #[.slice Ap np cp, .slice Al nl cl, .int .i64 wrg], .int .i64 i] w
      fun e w' => e = .returned (ansS (askF np nl pl ls wrg (isNo i nl)) (endF np nl pl ls wrg (2 * i) (-1))) ∧ Below w.heap.size w w' := by
  have HPI := Lib.hid HP
  have HLI := Lib.hid HL
  clear HP HL
  obtain ⟨z, hz⟩ : ∃ z, askF np nl pl ls wrg (isNo i nl) = z := ⟨_, rfl⟩
  have hzI := Lib.hid hz
  cases h0 : (z == 0)
  · have HA : ∀ W, Below w.heap.size w W → Calls Try.prog 56 #[.agg #[.slice Ap np cp, .slice Al nl cl, .int .i64 wrg], .bool (isNo i nl)] W fun e W' => e = .returned (.tuple #[.slice none 0 0, .int .i64 z]) ∧ Below W.heap.size W W' := fun W h => by
      have := refAsk_c Ap Al np cp nl cl wrg (isNo i nl) pl ls W hp hl (HPI.out.later h) (HLI.out.later h)
      rw [hz, h0] at this
      exact this
    replace HA := Lib.hid HA
    clear hz
    go_enter Try.func30, Try.ntmps30
    go_wp2_with fail
    go_name_world W hW
    obtain ⟨hB, hz⟩ := al2 hW
    obtain ⟨l_0, q_0, f_0⟩ := al2_0 hW
    obtain ⟨l_1, q_1, f_1⟩ := al2_1 hW
    have HZ := Lib.hid hz
    have zs := hB.size
    clear hW hz
    have hbW := hB
    go_region_held3 (fun w' => w'.cell? ⟨w.heap.size, 0, none⟩ = some (.slice Ap np cp) ∧ w'.cell? ⟨w.heap.size, 1, none⟩ = some (.slice Al nl cl) ∧ w'.cell? ⟨w.heap.size, 2, none⟩ = some (.int .i64 wrg))
      (exact keep3 (wr := W) (by (repeat first | with_reducible assumption | with_reducible exact Below.refl _ _ | (with_reducible refine Below.alloc ?_ ?side _; case side => (first | omega | (with_reducible exact Below.size (by assumption)) | (simp; done) | (simp; omega))) | (with_reducible refine Below.setCell ?_ ?side _; case side => (first | omega | (with_reducible exact Below.size (by assumption)) | (simp; done) | (simp; omega))) | with_reducible refine Below.drew ?_ | with_reducible refine below_drewN ?_ _ | (with_reducible refine below_step (by assumption) ?side ?_; case side => (first | omega | (with_reducible exact Below.size (by assumption)) | (simp; done) | (simp; omega))))) (q_0 0) (q_0 1) (q_0 2) l_0 l_0 l_0)
      (first
        | (go_at_call 12; refine (IsLine_c _ _ _ _ _ _ _ _ _ (by assumption)).mono ?_; rintro e w1 ⟨rfl, hb1⟩; have z1 := hb1.size; (try simp only [World.size_drew] at z1))
        | (go_at_call 56; refine (HA.out _ (by (repeat first | with_reducible assumption | with_reducible exact Below.refl _ _ | (with_reducible refine Below.alloc ?_ ?side _; case side => (first | omega | (with_reducible exact Below.size (by assumption)) | (simp; done) | (simp; omega))) | (with_reducible refine Below.setCell ?_ ?side _; case side => (first | omega | (with_reducible exact Below.size (by assumption)) | (simp; done) | (simp; omega))) | with_reducible refine Below.drew ?_ | with_reducible refine below_drewN ?_ _ | (with_reducible refine below_step (by assumption) ?side ?_; case side => (first | omega | (with_reducible exact Below.size (by assumption)) | (simp; done) | (simp; omega)))))).mono ?_; rintro e w2 ⟨rfl, hb2⟩; have z2 := hb2.size; (try simp only [World.size_alloc, World.size_drew] at z2)))
    all_goals
      have B2 : Below W.heap.size W w2 := by (repeat first | with_reducible assumption | with_reducible exact Below.refl _ _ | (with_reducible refine Below.alloc ?_ ?side _; case side => (first | omega | (with_reducible exact Below.size (by assumption)) | (simp; done) | (simp; omega))) | (with_reducible refine Below.setCell ?_ ?side _; case side => (first | omega | (with_reducible exact Below.size (by assumption)) | (simp; done) | (simp; omega))) | with_reducible refine Below.drew ?_ | with_reducible refine below_drewN ?_ _ | (with_reducible refine below_step (by assumption) ?side ?_; case side => (first | omega | (with_reducible exact Below.size (by assumption)) | (simp; done) | (simp; omega))))
      have d1 := fun i => (B2.cell (p := ⟨w.heap.size + 1, i, none⟩) l_1).trans (q_1 i)
      have e1 := fun i => (B2.frozen (p := ⟨w.heap.size + 1, i, none⟩) l_1).trans (f_1 i)
      have n1 : w.heap.size + 1 < w2.heap.size := by omega
      have hne : z ≠ 0 := by simpa using h0
      have BW : Below w.heap.size w w2 := by (repeat first | with_reducible assumption | with_reducible exact Below.refl _ _ | (with_reducible refine Below.alloc ?_ ?side _; case side => (first | omega | (with_reducible exact Below.size (by assumption)) | (simp; done) | (simp; omega))) | (with_reducible refine Below.setCell ?_ ?side _; case side => (first | omega | (with_reducible exact Below.size (by assumption)) | (simp; done) | (simp; omega))) | with_reducible refine Below.drew ?_ | with_reducible refine below_drewN ?_ _ | (with_reducible refine below_step (by assumption) ?side ?_; case side => (first | omega | (with_reducible exact Below.size (by assumption)) | (simp; done) | (simp; omega))))
      clear q_0 q_1 f_0 f_1
      go_wp2_with fail
      obtain ⟨x1, x2⟩ := two_cells (u := .int .i64 0) (v := .int .i64 0) (by simp) (d1 0) (d1 1)
      exact bodyPost_ret (v := ansS z (endF np nl pl ls wrg (2 * i) (-1))) (by simp [results, Try.results30, go_sem, x1, x2, ansS, h0]) rfl ⟨by rw [hzI.out], by (repeat first | with_reducible assumption | with_reducible exact Below.refl _ _ | (with_reducible refine Below.alloc ?_ ?side _; case side => (first | omega | (with_reducible exact Below.size (by assumption)) | (simp; done) | (simp; omega))) | (with_reducible refine Below.setCell ?_ ?side _; case side => (first | omega | (with_reducible exact Below.size (by assumption)) | (simp; done) | (simp; omega))) | with_reducible refine Below.drew ?_ | with_reducible refine below_drewN ?_ _ | (with_reducible refine below_step (by assumption) ?side ?_; case side => (first | omega | (with_reducible exact Below.size (by assumption)) | (simp; done) | (simp; omega))))⟩
  · obtain rfl : z = 0 := by simpa using h0
    obtain ⟨hck, hno, -⟩ := askF_zero hzI.out
    have hnoI := hno
    obtain ⟨k, rfl, hk⟩ := isNo_of hno
    have HA : ∀ W, Below w.heap.size w W → Calls Try.prog 56 #[.agg #[.slice Ap np cp, .slice Al nl cl, .int .i64 wrg], .bool true] W fun e W' => (∃ A c, e = .returned (.tuple #[.slice A (loL np nl pl ls wrg).length c, .int .i64 0]) ∧ IntsAt W' A (loL np nl pl ls wrg).length ((loL np nl pl ls wrg).map fun k : Nat => (k : Int))) ∧ Below W.heap.size W W' := fun W h => by
      have := refAsk_c Ap Al np cp nl cl wrg (isNo (k : Int) nl) pl ls W hp hl (HPI.out.later h) (HLI.out.later h)
      rw [hz, hno] at this
      exact this
    replace HA := Lib.hid HA
    have hok := (okBk_of HPI.out.1 HLI.out.1 hck).1
    have hsz : np ≤ 5 ∧ nl ≤ 8 := ⟨hok.hp, hok.hl⟩
    have HK := Lib.hid hok
    obtain ⟨n, hn⟩ : ∃ n, (loL np nl pl ls wrg).length = n := ⟨_, rfl⟩
    rw [hn] at HA
    have HN := Lib.hid hn
    have hw1 : IntKind.i64.wrap (2 * (k : Int)) = 2 * (k : Int) := IntWalk.i64_in _ (by omega)
    clear hck hno h0 hz hok hn
    go_enter Try.func30, Try.ntmps30
    go_wp2_with fail
    go_name_world W hW
    obtain ⟨hB, hz⟩ := al2 hW
    obtain ⟨l_0, q_0, f_0⟩ := al2_0 hW
    obtain ⟨l_1, q_1, f_1⟩ := al2_1 hW
    have HZ := Lib.hid hz
    have zs := hB.size
    clear hW hz
    have hbW := hB
    go_region_held3 (fun w' => w'.cell? ⟨w.heap.size, 0, none⟩ = some (.slice Ap np cp) ∧ w'.cell? ⟨w.heap.size, 1, none⟩ = some (.slice Al nl cl) ∧ w'.cell? ⟨w.heap.size, 2, none⟩ = some (.int .i64 wrg))
      (exact keep3 (wr := W) (by (repeat first | with_reducible assumption | with_reducible exact Below.refl _ _ | (with_reducible refine Below.alloc ?_ ?side _; case side => (first | omega | (with_reducible exact Below.size (by assumption)) | (simp; done) | (simp; omega))) | (with_reducible refine Below.setCell ?_ ?side _; case side => (first | omega | (with_reducible exact Below.size (by assumption)) | (simp; done) | (simp; omega))) | with_reducible refine Below.drew ?_ | with_reducible refine below_drewN ?_ _ | (with_reducible refine below_step (by assumption) ?side ?_; case side => (first | omega | (with_reducible exact Below.size (by assumption)) | (simp; done) | (simp; omega))))) (q_0 0) (q_0 1) (q_0 2) l_0 l_0 l_0)
      (first
        | (go_at_call 12; refine (IsLine_c _ _ _ _ _ _ _ _ _ (by assumption)).mono ?_; rw [hnoI]; rintro e w1 ⟨rfl, hb1⟩; have z1 := hb1.size; (try simp only [World.size_drew] at z1))
        | (go_at_call 56; refine (HA.out _ (by (repeat first | with_reducible assumption | with_reducible exact Below.refl _ _ | (with_reducible refine Below.alloc ?_ ?side _; case side => (first | omega | (with_reducible exact Below.size (by assumption)) | (simp; done) | (simp; omega))) | (with_reducible refine Below.setCell ?_ ?side _; case side => (first | omega | (with_reducible exact Below.size (by assumption)) | (simp; done) | (simp; omega))) | with_reducible refine Below.drew ?_ | with_reducible refine below_drewN ?_ _ | (with_reducible refine below_step (by assumption) ?side ?_; case side => (first | omega | (with_reducible exact Below.size (by assumption)) | (simp; done) | (simp; omega)))))).mono ?_; rintro e w2 ⟨⟨A, c, rfl, hI⟩, hb2⟩; have HI := Lib.hid hI; clear hI; have z2 := hb2.size; (try simp only [World.size_alloc, World.size_drew] at z2)))
    all_goals
      have B2 : Below W.heap.size W w2 := by (repeat first | with_reducible assumption | with_reducible exact Below.refl _ _ | (with_reducible refine Below.alloc ?_ ?side _; case side => (first | omega | (with_reducible exact Below.size (by assumption)) | (simp; done) | (simp; omega))) | (with_reducible refine Below.setCell ?_ ?side _; case side => (first | omega | (with_reducible exact Below.size (by assumption)) | (simp; done) | (simp; omega))) | with_reducible refine Below.drew ?_ | with_reducible refine below_drewN ?_ _ | (with_reducible refine below_step (by assumption) ?side ?_; case side => (first | omega | (with_reducible exact Below.size (by assumption)) | (simp; done) | (simp; omega))))
      have d0 := fun i => (B2.cell (p := ⟨w.heap.size, i, none⟩) l_0).trans (q_0 i)
      have d1 := fun i => (B2.cell (p := ⟨w.heap.size + 1, i, none⟩) l_1).trans (q_1 i)
      have e1 := fun i => (B2.frozen (p := ⟨w.heap.size + 1, i, none⟩) l_1).trans (f_1 i)
      have n0 : w.heap.size < w2.heap.size := by omega
      have n1 : w.heap.size + 1 < w2.heap.size := by omega
      have BW : Below w.heap.size w w2 := by (repeat first | with_reducible assumption | with_reducible exact Below.refl _ _ | (with_reducible refine Below.alloc ?_ ?side _; case side => (first | omega | (with_reducible exact Below.size (by assumption)) | (simp; done) | (simp; omega))) | (with_reducible refine Below.setCell ?_ ?side _; case side => (first | omega | (with_reducible exact Below.size (by assumption)) | (simp; done) | (simp; omega))) | with_reducible refine Below.drew ?_ | with_reducible refine below_drewN ?_ _ | (with_reducible refine below_step (by assumption) ?side ?_; case side => (first | omega | (with_reducible exact Below.size (by assumption)) | (simp; done) | (simp; omega))))
      clear q_0 q_1 f_0 f_1
      go_wp2_with fail
      go_at_call 57
      refine (refEnds_c Ap Al A np cp nl cl n c wrg (2 * (k : Int)) (-1) pl ls _ HN.out HK.out (HPI.out.later (by (repeat first | with_reducible assumption | with_reducible exact Below.refl _ _ | (with_reducible refine Below.alloc ?_ ?side _; case side => (first | omega | (with_reducible exact Below.size (by assumption)) | (simp; done) | (simp; omega))) | (with_reducible refine Below.setCell ?_ ?side _; case side => (first | omega | (with_reducible exact Below.size (by assumption)) | (simp; done) | (simp; omega))) | with_reducible refine Below.drew ?_ | with_reducible refine below_drewN ?_ _ | (with_reducible refine below_step (by assumption) ?side ?_; case side => (first | omega | (with_reducible exact Below.size (by assumption)) | (simp; done) | (simp; omega)))))) (HLI.out.later (by (repeat first | with_reducible assumption | with_reducible exact Below.refl _ _ | (with_reducible refine Below.alloc ?_ ?side _; case side => (first | omega | (with_reducible exact Below.size (by assumption)) | (simp; done) | (simp; omega))) | (with_reducible refine Below.setCell ?_ ?side _; case side => (first | omega | (with_reducible exact Below.size (by assumption)) | (simp; done) | (simp; omega))) | with_reducible refine Below.drew ?_ | with_reducible refine below_drewN ?_ _ | (with_reducible refine below_step (by assumption) ?side ?_; case side => (first | omega | (with_reducible exact Below.size (by assumption)) | (simp; done) | (simp; omega)))))) (HI.out.later (by (repeat first | with_reducible assumption | with_reducible exact Below.refl _ _ | (with_reducible refine Below.alloc ?_ ?side _; case side => (first | omega | (with_reducible exact Below.size (by assumption)) | (simp; done) | (simp; omega))) | (with_reducible refine Below.setCell ?_ ?side _; case side => (first | omega | (with_reducible exact Below.size (by assumption)) | (simp; done) | (simp; omega))) | with_reducible refine Below.drew ?_ | with_reducible refine below_drewN ?_ _ | (with_reducible refine below_step (by assumption) ?side ?_; case side => (first | omega | (with_reducible exact Below.size (by assumption)) | (simp; done) | (simp; omega)))))) (.inr ⟨2 * k, by omega, by omega⟩) (.inl rfl)).mono ?_
      rintro e w3 ⟨rfl, hb3⟩
      have z3 := hb3.size
      have x0 := (hb3.cell (p := ⟨w.heap.size + 1, 0, none⟩) n1).trans (d1 0)
      have x1 := (hb3.cell (p := ⟨w.heap.size + 1, 1, none⟩) n1).trans (d1 1)
      have x2 := (hb3.frozen (p := ⟨w.heap.size + 1, 0, none⟩) n1).trans (e1 0)
      have x3 := (hb3.frozen (p := ⟨w.heap.size + 1, 1, none⟩) n1).trans (e1 1)
      go_wp2_with fail
      obtain ⟨y1, y2⟩ := two_cells (u := .int .i64 (endF np nl pl ls wrg (2 * (k : Int)) (-1)).lo) (v := .int .i64 (endF np nl pl ls wrg (2 * (k : Int)) (-1)).hi) (by simp) x0 x1
      exact bodyPost_ret (v := ansS 0 (endF np nl pl ls wrg (2 * (k : Int)) (-1))) (by simp [results, Try.results30, go_sem, y1, y2, ansS]) rfl ⟨by rw [hzI.out], by (repeat first | with_reducible assumption | with_reducible exact Below.refl _ _ | (with_reducible refine Below.alloc ?_ ?side _; case side => (first | omega | (with_reducible exact Below.size (by assumption)) | (simp; done) | (simp; omega))) | (with_reducible refine Below.setCell ?_ ?side _; case side => (first | omega | (with_reducible exact Below.size (by assumption)) | (simp; done) | (simp; omega))) | with_reducible refine Below.drew ?_ | with_reducible refine below_drewN ?_ _ | (with_reducible refine below_step (by assumption) ?side ?_; case side => (first | omega | (with_reducible exact Below.size (by assumption)) | (simp; done) | (simp; omega))))⟩
set_option maxRecDepth 100000 in
set_option maxHeartbeats 1600000 in
theorem refStock_c (Ap Al : Option Addr) (np cp nl cl : Nat) (wrg i : Int) (pl : List Sp) (ls : List Ln) (w : World) (hp : np ≤ 40) (hl : nl ≤ 40) (HP : SpsAt w Ap np pl) (HL : LnsAt w Al nl ls) :
    Calls Try.prog 31 #[.agg #[.slice Ap np cp, .slice Al nl cl, .int .i64 wrg], .int .i64 i] w
      fun e w' => e = .returned (ansS (askF np nl pl ls wrg (isNo i np)) (endF np nl pl ls wrg (-1) i)) ∧ Below w.heap.size w w' := by
  have HPI := Lib.hid HP
  have HLI := Lib.hid HL
  clear HP HL
  obtain ⟨z, hz⟩ : ∃ z, askF np nl pl ls wrg (isNo i np) = z := ⟨_, rfl⟩
  have hzI := Lib.hid hz
  cases h0 : (z == 0)
  · have HA : ∀ W, Below w.heap.size w W → Calls Try.prog 56 #[.agg #[.slice Ap np cp, .slice Al nl cl, .int .i64 wrg], .bool (isNo i np)] W fun e W' => e = .returned (.tuple #[.slice none 0 0, .int .i64 z]) ∧ Below W.heap.size W W' := fun W h => by
      have := refAsk_c Ap Al np cp nl cl wrg (isNo i np) pl ls W hp hl (HPI.out.later h) (HLI.out.later h)
      rw [hz, h0] at this
      exact this
    replace HA := Lib.hid HA
    clear hz
    go_enter Try.func31, Try.ntmps31
    go_wp2_with fail
    go_name_world W hW
    obtain ⟨hB, hz⟩ := al2 hW
    obtain ⟨l_0, q_0, f_0⟩ := al2_0 hW
    obtain ⟨l_1, q_1, f_1⟩ := al2_1 hW
    have HZ := Lib.hid hz
    have zs := hB.size
    clear hW hz
    have hbW := hB
    go_region_held3 (fun w' => w'.cell? ⟨w.heap.size, 0, none⟩ = some (.slice Ap np cp) ∧ w'.cell? ⟨w.heap.size, 1, none⟩ = some (.slice Al nl cl) ∧ w'.cell? ⟨w.heap.size, 2, none⟩ = some (.int .i64 wrg))
      (exact keep3 (wr := W) (by (repeat first | with_reducible assumption | with_reducible exact Below.refl _ _ | (with_reducible refine Below.alloc ?_ ?side _; case side => (first | omega | (with_reducible exact Below.size (by assumption)) | (simp; done) | (simp; omega))) | (with_reducible refine Below.setCell ?_ ?side _; case side => (first | omega | (with_reducible exact Below.size (by assumption)) | (simp; done) | (simp; omega))) | with_reducible refine Below.drew ?_ | with_reducible refine below_drewN ?_ _ | (with_reducible refine below_step (by assumption) ?side ?_; case side => (first | omega | (with_reducible exact Below.size (by assumption)) | (simp; done) | (simp; omega))))) (q_0 0) (q_0 1) (q_0 2) l_0 l_0 l_0)
      (first
        | (go_at_call 27; refine (IsPlace_c _ _ _ _ _ _ _ _ _ (by assumption)).mono ?_; rintro e w1 ⟨rfl, hb1⟩; have z1 := hb1.size; (try simp only [World.size_drew] at z1))
        | (go_at_call 56; refine (HA.out _ (by (repeat first | with_reducible assumption | with_reducible exact Below.refl _ _ | (with_reducible refine Below.alloc ?_ ?side _; case side => (first | omega | (with_reducible exact Below.size (by assumption)) | (simp; done) | (simp; omega))) | (with_reducible refine Below.setCell ?_ ?side _; case side => (first | omega | (with_reducible exact Below.size (by assumption)) | (simp; done) | (simp; omega))) | with_reducible refine Below.drew ?_ | with_reducible refine below_drewN ?_ _ | (with_reducible refine below_step (by assumption) ?side ?_; case side => (first | omega | (with_reducible exact Below.size (by assumption)) | (simp; done) | (simp; omega)))))).mono ?_; rintro e w2 ⟨rfl, hb2⟩; have z2 := hb2.size; (try simp only [World.size_alloc, World.size_drew] at z2)))
    all_goals
      have B2 : Below W.heap.size W w2 := by (repeat first | with_reducible assumption | with_reducible exact Below.refl _ _ | (with_reducible refine Below.alloc ?_ ?side _; case side => (first | omega | (with_reducible exact Below.size (by assumption)) | (simp; done) | (simp; omega))) | (with_reducible refine Below.setCell ?_ ?side _; case side => (first | omega | (with_reducible exact Below.size (by assumption)) | (simp; done) | (simp; omega))) | with_reducible refine Below.drew ?_ | with_reducible refine below_drewN ?_ _ | (with_reducible refine below_step (by assumption) ?side ?_; case side => (first | omega | (with_reducible exact Below.size (by assumption)) | (simp; done) | (simp; omega))))
      have d1 := fun i => (B2.cell (p := ⟨w.heap.size + 1, i, none⟩) l_1).trans (q_1 i)
      have e1 := fun i => (B2.frozen (p := ⟨w.heap.size + 1, i, none⟩) l_1).trans (f_1 i)
      have n1 : w.heap.size + 1 < w2.heap.size := by omega
      have hne : z ≠ 0 := by simpa using h0
      have BW : Below w.heap.size w w2 := by (repeat first | with_reducible assumption | with_reducible exact Below.refl _ _ | (with_reducible refine Below.alloc ?_ ?side _; case side => (first | omega | (with_reducible exact Below.size (by assumption)) | (simp; done) | (simp; omega))) | (with_reducible refine Below.setCell ?_ ?side _; case side => (first | omega | (with_reducible exact Below.size (by assumption)) | (simp; done) | (simp; omega))) | with_reducible refine Below.drew ?_ | with_reducible refine below_drewN ?_ _ | (with_reducible refine below_step (by assumption) ?side ?_; case side => (first | omega | (with_reducible exact Below.size (by assumption)) | (simp; done) | (simp; omega))))
      clear q_0 q_1 f_0 f_1
      go_wp2_with fail
      obtain ⟨x1, x2⟩ := two_cells (u := .int .i64 0) (v := .int .i64 0) (by simp) (d1 0) (d1 1)
      exact bodyPost_ret (v := ansS z (endF np nl pl ls wrg (-1) i)) (by simp [results, Try.results31, go_sem, x1, x2, ansS, h0]) rfl ⟨by rw [hzI.out], by (repeat first | with_reducible assumption | with_reducible exact Below.refl _ _ | (with_reducible refine Below.alloc ?_ ?side _; case side => (first | omega | (with_reducible exact Below.size (by assumption)) | (simp; done) | (simp; omega))) | (with_reducible refine Below.setCell ?_ ?side _; case side => (first | omega | (with_reducible exact Below.size (by assumption)) | (simp; done) | (simp; omega))) | with_reducible refine Below.drew ?_ | with_reducible refine below_drewN ?_ _ | (with_reducible refine below_step (by assumption) ?side ?_; case side => (first | omega | (with_reducible exact Below.size (by assumption)) | (simp; done) | (simp; omega))))⟩
  · obtain rfl : z = 0 := by simpa using h0
    obtain ⟨hck, hno, -⟩ := askF_zero hzI.out
    have hnoI := hno
    obtain ⟨k, rfl, hk⟩ := isNo_of hno
    have HA : ∀ W, Below w.heap.size w W → Calls Try.prog 56 #[.agg #[.slice Ap np cp, .slice Al nl cl, .int .i64 wrg], .bool true] W fun e W' => (∃ A c, e = .returned (.tuple #[.slice A (loL np nl pl ls wrg).length c, .int .i64 0]) ∧ IntsAt W' A (loL np nl pl ls wrg).length ((loL np nl pl ls wrg).map fun k : Nat => (k : Int))) ∧ Below W.heap.size W W' := fun W h => by
      have := refAsk_c Ap Al np cp nl cl wrg (isNo (k : Int) np) pl ls W hp hl (HPI.out.later h) (HLI.out.later h)
      rw [hz, hno] at this
      exact this
    replace HA := Lib.hid HA
    have hok := (okBk_of HPI.out.1 HLI.out.1 hck).1
    have hsz : np ≤ 5 ∧ nl ≤ 8 := ⟨hok.hp, hok.hl⟩
    have HK := Lib.hid hok
    obtain ⟨n, hn⟩ : ∃ n, (loL np nl pl ls wrg).length = n := ⟨_, rfl⟩
    rw [hn] at HA
    have HN := Lib.hid hn
    have hw1 : IntKind.i64.wrap (2 * (k : Int)) = 2 * (k : Int) := IntWalk.i64_in _ (by omega)
    clear hck hno h0 hz hok hn
    go_enter Try.func31, Try.ntmps31
    go_wp2_with fail
    go_name_world W hW
    obtain ⟨hB, hz⟩ := al2 hW
    obtain ⟨l_0, q_0, f_0⟩ := al2_0 hW
    obtain ⟨l_1, q_1, f_1⟩ := al2_1 hW
    have HZ := Lib.hid hz
    have zs := hB.size
    clear hW hz
    have hbW := hB
    go_region_held3 (fun w' => w'.cell? ⟨w.heap.size, 0, none⟩ = some (.slice Ap np cp) ∧ w'.cell? ⟨w.heap.size, 1, none⟩ = some (.slice Al nl cl) ∧ w'.cell? ⟨w.heap.size, 2, none⟩ = some (.int .i64 wrg))
      (exact keep3 (wr := W) (by (repeat first | with_reducible assumption | with_reducible exact Below.refl _ _ | (with_reducible refine Below.alloc ?_ ?side _; case side => (first | omega | (with_reducible exact Below.size (by assumption)) | (simp; done) | (simp; omega))) | (with_reducible refine Below.setCell ?_ ?side _; case side => (first | omega | (with_reducible exact Below.size (by assumption)) | (simp; done) | (simp; omega))) | with_reducible refine Below.drew ?_ | with_reducible refine below_drewN ?_ _ | (with_reducible refine below_step (by assumption) ?side ?_; case side => (first | omega | (with_reducible exact Below.size (by assumption)) | (simp; done) | (simp; omega))))) (q_0 0) (q_0 1) (q_0 2) l_0 l_0 l_0)
      (first
        | (go_at_call 27; refine (IsPlace_c _ _ _ _ _ _ _ _ _ (by assumption)).mono ?_; rw [hnoI]; rintro e w1 ⟨rfl, hb1⟩; have z1 := hb1.size; (try simp only [World.size_drew] at z1))
        | (go_at_call 56; refine (HA.out _ (by (repeat first | with_reducible assumption | with_reducible exact Below.refl _ _ | (with_reducible refine Below.alloc ?_ ?side _; case side => (first | omega | (with_reducible exact Below.size (by assumption)) | (simp; done) | (simp; omega))) | (with_reducible refine Below.setCell ?_ ?side _; case side => (first | omega | (with_reducible exact Below.size (by assumption)) | (simp; done) | (simp; omega))) | with_reducible refine Below.drew ?_ | with_reducible refine below_drewN ?_ _ | (with_reducible refine below_step (by assumption) ?side ?_; case side => (first | omega | (with_reducible exact Below.size (by assumption)) | (simp; done) | (simp; omega)))))).mono ?_; rintro e w2 ⟨⟨A, c, rfl, hI⟩, hb2⟩; have HI := Lib.hid hI; clear hI; have z2 := hb2.size; (try simp only [World.size_alloc, World.size_drew] at z2)))
    all_goals
      have B2 : Below W.heap.size W w2 := by (repeat first | with_reducible assumption | with_reducible exact Below.refl _ _ | (with_reducible refine Below.alloc ?_ ?side _; case side => (first | omega | (with_reducible exact Below.size (by assumption)) | (simp; done) | (simp; omega))) | (with_reducible refine Below.setCell ?_ ?side _; case side => (first | omega | (with_reducible exact Below.size (by assumption)) | (simp; done) | (simp; omega))) | with_reducible refine Below.drew ?_ | with_reducible refine below_drewN ?_ _ | (with_reducible refine below_step (by assumption) ?side ?_; case side => (first | omega | (with_reducible exact Below.size (by assumption)) | (simp; done) | (simp; omega))))
      have d0 := fun i => (B2.cell (p := ⟨w.heap.size, i, none⟩) l_0).trans (q_0 i)
      have d1 := fun i => (B2.cell (p := ⟨w.heap.size + 1, i, none⟩) l_1).trans (q_1 i)
      have e1 := fun i => (B2.frozen (p := ⟨w.heap.size + 1, i, none⟩) l_1).trans (f_1 i)
      have n0 : w.heap.size < w2.heap.size := by omega
      have n1 : w.heap.size + 1 < w2.heap.size := by omega
      have BW : Below w.heap.size w w2 := by (repeat first | with_reducible assumption | with_reducible exact Below.refl _ _ | (with_reducible refine Below.alloc ?_ ?side _; case side => (first | omega | (with_reducible exact Below.size (by assumption)) | (simp; done) | (simp; omega))) | (with_reducible refine Below.setCell ?_ ?side _; case side => (first | omega | (with_reducible exact Below.size (by assumption)) | (simp; done) | (simp; omega))) | with_reducible refine Below.drew ?_ | with_reducible refine below_drewN ?_ _ | (with_reducible refine below_step (by assumption) ?side ?_; case side => (first | omega | (with_reducible exact Below.size (by assumption)) | (simp; done) | (simp; omega))))
      clear q_0 q_1 f_0 f_1
      go_wp2_with fail
      go_at_call 57
      refine (refEnds_c Ap Al A np cp nl cl n c wrg (-1) ((k : Int)) pl ls _ HN.out HK.out (HPI.out.later (by (repeat first | with_reducible assumption | with_reducible exact Below.refl _ _ | (with_reducible refine Below.alloc ?_ ?side _; case side => (first | omega | (with_reducible exact Below.size (by assumption)) | (simp; done) | (simp; omega))) | (with_reducible refine Below.setCell ?_ ?side _; case side => (first | omega | (with_reducible exact Below.size (by assumption)) | (simp; done) | (simp; omega))) | with_reducible refine Below.drew ?_ | with_reducible refine below_drewN ?_ _ | (with_reducible refine below_step (by assumption) ?side ?_; case side => (first | omega | (with_reducible exact Below.size (by assumption)) | (simp; done) | (simp; omega)))))) (HLI.out.later (by (repeat first | with_reducible assumption | with_reducible exact Below.refl _ _ | (with_reducible refine Below.alloc ?_ ?side _; case side => (first | omega | (with_reducible exact Below.size (by assumption)) | (simp; done) | (simp; omega))) | (with_reducible refine Below.setCell ?_ ?side _; case side => (first | omega | (with_reducible exact Below.size (by assumption)) | (simp; done) | (simp; omega))) | with_reducible refine Below.drew ?_ | with_reducible refine below_drewN ?_ _ | (with_reducible refine below_step (by assumption) ?side ?_; case side => (first | omega | (with_reducible exact Below.size (by assumption)) | (simp; done) | (simp; omega)))))) (HI.out.later (by (repeat first | with_reducible assumption | with_reducible exact Below.refl _ _ | (with_reducible refine Below.alloc ?_ ?side _; case side => (first | omega | (with_reducible exact Below.size (by assumption)) | (simp; done) | (simp; omega))) | (with_reducible refine Below.setCell ?_ ?side _; case side => (first | omega | (with_reducible exact Below.size (by assumption)) | (simp; done) | (simp; omega))) | with_reducible refine Below.drew ?_ | with_reducible refine below_drewN ?_ _ | (with_reducible refine below_step (by assumption) ?side ?_; case side => (first | omega | (with_reducible exact Below.size (by assumption)) | (simp; done) | (simp; omega)))))) (.inl rfl) (.inr ⟨k, rfl, by omega⟩)).mono ?_
      rintro e w3 ⟨rfl, hb3⟩
      have z3 := hb3.size
      have x0 := (hb3.cell (p := ⟨w.heap.size + 1, 0, none⟩) n1).trans (d1 0)
      have x1 := (hb3.cell (p := ⟨w.heap.size + 1, 1, none⟩) n1).trans (d1 1)
      have x2 := (hb3.frozen (p := ⟨w.heap.size + 1, 0, none⟩) n1).trans (e1 0)
      have x3 := (hb3.frozen (p := ⟨w.heap.size + 1, 1, none⟩) n1).trans (e1 1)
      go_wp2_with fail
      obtain ⟨y1, y2⟩ := two_cells (u := .int .i64 (endF np nl pl ls wrg (-1) ((k : Int))).lo) (v := .int .i64 (endF np nl pl ls wrg (-1) ((k : Int))).hi) (by simp) x0 x1
      exact bodyPost_ret (v := ansS 0 (endF np nl pl ls wrg (-1) ((k : Int)))) (by simp [results, Try.results31, go_sem, y1, y2, ansS]) rfl ⟨by rw [hzI.out], by (repeat first | with_reducible assumption | with_reducible exact Below.refl _ _ | (with_reducible refine Below.alloc ?_ ?side _; case side => (first | omega | (with_reducible exact Below.size (by assumption)) | (simp; done) | (simp; omega))) | (with_reducible refine Below.setCell ?_ ?side _; case side => (first | omega | (with_reducible exact Below.size (by assumption)) | (simp; done) | (simp; omega))) | with_reducible refine Below.drew ?_ | with_reducible refine below_drewN ?_ _ | (with_reducible refine below_step (by assumption) ?side ?_; case side => (first | omega | (with_reducible exact Below.size (by assumption)) | (simp; done) | (simp; omega))))⟩

set_option maxRecDepth 100000 in
set_option maxHeartbeats 1600000 in
theorem refLost_c (Ap Al : Option Addr) (np cp nl cl : Nat) (wrg : Int) (pl : List Sp) (ls : List Ln) (w : World) (hp : np ≤ 40) (hl : nl ≤ 40) (HP : SpsAt w Ap np pl) (HL : LnsAt w Al nl ls) :
    Calls Try.prog 32 #[.agg #[.slice Ap np cp, .slice Al nl cl, .int .i64 wrg]] w
      fun e w' => e = .returned (ansS (askF np nl pl ls wrg true) (endF np nl pl ls wrg (-1) np)) ∧ Below w.heap.size w w' := by
  have HPI := Lib.hid HP
  have HLI := Lib.hid HL
  clear HP HL
  obtain ⟨z, hz⟩ : ∃ z, askF np nl pl ls wrg true = z := ⟨_, rfl⟩
  have hzI := Lib.hid hz
  cases h0 : (z == 0)
  · have HA : ∀ W, Below w.heap.size w W → Calls Try.prog 56 #[.agg #[.slice Ap np cp, .slice Al nl cl, .int .i64 wrg], .bool true] W fun e W' => e = .returned (.tuple #[.slice none 0 0, .int .i64 z]) ∧ Below W.heap.size W W' := fun W h => by
      have := refAsk_c Ap Al np cp nl cl wrg true pl ls W hp hl (HPI.out.later h) (HLI.out.later h)
      rw [hz, h0] at this
      exact this
    replace HA := Lib.hid HA
    have hne : z ≠ 0 := by simpa using h0
    clear hz
    go_enter Try.func32, Try.ntmps32
    go_wp2_with (go_at_call 56; refine (HA.out _ (by (repeat first | with_reducible assumption | with_reducible exact Below.refl _ _ | (with_reducible refine Below.alloc ?_ ?side _; case side => (first | omega | (with_reducible exact Below.size (by assumption)) | (simp; done) | (simp; omega))) | (with_reducible refine Below.setCell ?_ ?side _; case side => (first | omega | (with_reducible exact Below.size (by assumption)) | (simp; done) | (simp; omega))) | with_reducible refine Below.drew ?_ | with_reducible refine below_drewN ?_ _ | (with_reducible refine below_step (by assumption) ?side ?_; case side => (first | omega | (with_reducible exact Below.size (by assumption)) | (simp; done) | (simp; omega)))))).mono ?_; rintro e w2 ⟨rfl, hb2⟩; have z2 := hb2.size; simp only [World.size_alloc] at z2; have d1 := fun i => (hb2.cell (p := ⟨w.heap.size + 1, i, none⟩) (by first | omega | (simp; done) | (simp; omega))).trans ((al2_1 rfl).2.1 i); have e1 := fun i => (hb2.frozen (p := ⟨w.heap.size + 1, i, none⟩) (by first | omega | (simp; done) | (simp; omega))).trans ((al2_1 rfl).2.2 i); have n1 : w.heap.size + 1 < w2.heap.size := (by omega))
    obtain ⟨x1, x2⟩ := two_cells (u := .int .i64 0) (v := .int .i64 0) (by simp) (d1 0) (d1 1)
    exact bodyPost_ret (v := ansS z (endF np nl pl ls wrg (-1) np)) (by simp [results, Try.results32, go_sem, x1, x2, ansS, h0]) rfl ⟨by rw [hzI.out], by (repeat first | with_reducible assumption | with_reducible exact Below.refl _ _ | (with_reducible refine Below.alloc ?_ ?side _; case side => (first | omega | (with_reducible exact Below.size (by assumption)) | (simp; done) | (simp; omega))) | (with_reducible refine Below.setCell ?_ ?side _; case side => (first | omega | (with_reducible exact Below.size (by assumption)) | (simp; done) | (simp; omega))) | with_reducible refine Below.drew ?_ | with_reducible refine below_drewN ?_ _ | (with_reducible refine below_step (by assumption) ?side ?_; case side => (first | omega | (with_reducible exact Below.size (by assumption)) | (simp; done) | (simp; omega))))⟩
  · obtain rfl : z = 0 := by simpa using h0
    obtain ⟨hck, -, -⟩ := askF_zero hzI.out
    have HA : ∀ W, Below w.heap.size w W → Calls Try.prog 56 #[.agg #[.slice Ap np cp, .slice Al nl cl, .int .i64 wrg], .bool true] W fun e W' => (∃ A c, e = .returned (.tuple #[.slice A (loL np nl pl ls wrg).length c, .int .i64 0]) ∧ IntsAt W' A (loL np nl pl ls wrg).length ((loL np nl pl ls wrg).map fun k : Nat => (k : Int))) ∧ Below W.heap.size W W' := fun W h => by
      have := refAsk_c Ap Al np cp nl cl wrg true pl ls W hp hl (HPI.out.later h) (HLI.out.later h)
      rw [hz] at this
      exact this
    replace HA := Lib.hid HA
    have hok := (okBk_of HPI.out.1 HLI.out.1 hck).1
    have hsz : np ≤ 5 ∧ nl ≤ 8 := ⟨hok.hp, hok.hl⟩
    have HK := Lib.hid hok
    obtain ⟨n, hn⟩ : ∃ n, (loL np nl pl ls wrg).length = n := ⟨_, rfl⟩
    rw [hn] at HA
    have HN := Lib.hid hn
    clear hck h0 hz hok hn
    go_enter Try.func32, Try.ntmps32
    go_wp2_with (first
      | (go_at_call 56; refine (HA.out _ (by (repeat first | with_reducible assumption | with_reducible exact Below.refl _ _ | (with_reducible refine Below.alloc ?_ ?side _; case side => (first | omega | (with_reducible exact Below.size (by assumption)) | (simp; done) | (simp; omega))) | (with_reducible refine Below.setCell ?_ ?side _; case side => (first | omega | (with_reducible exact Below.size (by assumption)) | (simp; done) | (simp; omega))) | with_reducible refine Below.drew ?_ | with_reducible refine below_drewN ?_ _ | (with_reducible refine below_step (by assumption) ?side ?_; case side => (first | omega | (with_reducible exact Below.size (by assumption)) | (simp; done) | (simp; omega)))))).mono ?_; rintro e w2 ⟨⟨A, c, rfl, hI⟩, hb2⟩; have HI := Lib.hid hI; have z2 := hb2.size; simp only [World.size_alloc] at z2; have d0 := fun i => (hb2.cell (p := ⟨w.heap.size, i, none⟩) (by first | omega | (simp; done) | (simp; omega))).trans ((al2_0 rfl).2.1 i); have d1 := fun i => (hb2.cell (p := ⟨w.heap.size + 1, i, none⟩) (by first | omega | (simp; done) | (simp; omega))).trans ((al2_1 rfl).2.1 i); have e1 := fun i => (hb2.frozen (p := ⟨w.heap.size + 1, i, none⟩) (by first | omega | (simp; done) | (simp; omega))).trans ((al2_1 rfl).2.2 i); have n0 : w.heap.size < w2.heap.size := (by omega); have n1 : w.heap.size + 1 < w2.heap.size := (by omega); have BW : Below w.heap.size w w2 := (by (repeat first | with_reducible assumption | with_reducible exact Below.refl _ _ | (with_reducible refine Below.alloc ?_ ?side _; case side => (first | omega | (with_reducible exact Below.size (by assumption)) | (simp; done) | (simp; omega))) | (with_reducible refine Below.setCell ?_ ?side _; case side => (first | omega | (with_reducible exact Below.size (by assumption)) | (simp; done) | (simp; omega))) | with_reducible refine Below.drew ?_ | with_reducible refine below_drewN ?_ _ | (with_reducible refine below_step (by assumption) ?side ?_; case side => (first | omega | (with_reducible exact Below.size (by assumption)) | (simp; done) | (simp; omega))))); clear hI)
      | (go_at_call 57; refine (refEnds_c Ap Al A np cp nl cl n c wrg (-1) (np : Int) pl ls _ HN.out HK.out (HPI.out.later (by (repeat first | with_reducible assumption | with_reducible exact Below.refl _ _ | (with_reducible refine Below.alloc ?_ ?side _; case side => (first | omega | (with_reducible exact Below.size (by assumption)) | (simp; done) | (simp; omega))) | (with_reducible refine Below.setCell ?_ ?side _; case side => (first | omega | (with_reducible exact Below.size (by assumption)) | (simp; done) | (simp; omega))) | with_reducible refine Below.drew ?_ | with_reducible refine below_drewN ?_ _ | (with_reducible refine below_step (by assumption) ?side ?_; case side => (first | omega | (with_reducible exact Below.size (by assumption)) | (simp; done) | (simp; omega)))))) (HLI.out.later (by (repeat first | with_reducible assumption | with_reducible exact Below.refl _ _ | (with_reducible refine Below.alloc ?_ ?side _; case side => (first | omega | (with_reducible exact Below.size (by assumption)) | (simp; done) | (simp; omega))) | (with_reducible refine Below.setCell ?_ ?side _; case side => (first | omega | (with_reducible exact Below.size (by assumption)) | (simp; done) | (simp; omega))) | with_reducible refine Below.drew ?_ | with_reducible refine below_drewN ?_ _ | (with_reducible refine below_step (by assumption) ?side ?_; case side => (first | omega | (with_reducible exact Below.size (by assumption)) | (simp; done) | (simp; omega)))))) (HI.out.later (by (repeat first | with_reducible assumption | with_reducible exact Below.refl _ _ | (with_reducible refine Below.alloc ?_ ?side _; case side => (first | omega | (with_reducible exact Below.size (by assumption)) | (simp; done) | (simp; omega))) | (with_reducible refine Below.setCell ?_ ?side _; case side => (first | omega | (with_reducible exact Below.size (by assumption)) | (simp; done) | (simp; omega))) | with_reducible refine Below.drew ?_ | with_reducible refine below_drewN ?_ _ | (with_reducible refine below_step (by assumption) ?side ?_; case side => (first | omega | (with_reducible exact Below.size (by assumption)) | (simp; done) | (simp; omega)))))) (.inl rfl) (.inr ⟨np, rfl, by omega⟩)).mono ?_; rintro e w3 ⟨rfl, hb3⟩; have z3 := hb3.size; have x0 := (hb3.cell (p := ⟨w.heap.size + 1, 0, none⟩) n1).trans (d1 0); have x1 := (hb3.cell (p := ⟨w.heap.size + 1, 1, none⟩) n1).trans (d1 1); have x2 := (hb3.frozen (p := ⟨w.heap.size + 1, 0, none⟩) n1).trans (e1 0); have x3 := (hb3.frozen (p := ⟨w.heap.size + 1, 1, none⟩) n1).trans (e1 1)))
    obtain ⟨y1, y2⟩ := two_cells (u := .int .i64 (endF np nl pl ls wrg (-1) np).lo) (v := .int .i64 (endF np nl pl ls wrg (-1) np).hi) (by simp) x0 x1
    exact bodyPost_ret (v := ansS 0 (endF np nl pl ls wrg (-1) np)) (by simp [results, Try.results32, go_sem, y1, y2, ansS]) rfl ⟨by rw [hzI.out], by (repeat first | with_reducible assumption | with_reducible exact Below.refl _ _ | (with_reducible refine Below.alloc ?_ ?side _; case side => (first | omega | (with_reducible exact Below.size (by assumption)) | (simp; done) | (simp; omega))) | (with_reducible refine Below.setCell ?_ ?side _; case side => (first | omega | (with_reducible exact Below.size (by assumption)) | (simp; done) | (simp; omega))) | with_reducible refine Below.drew ?_ | with_reducible refine below_drewN ?_ _ | (with_reducible refine below_step (by assumption) ?side ?_; case side => (first | omega | (with_reducible exact Below.size (by assumption)) | (simp; done) | (simp; omega))))⟩

def strF (np nl : Nat) (pl : List Sp) (ls : List Ln) (wrg : Int) (i : Nat) : Bool := (loL np nl pl ls wrg).all fun s => s.testBit i
def srfK (np nl : Nat) (pl : List Sp) (ls : List Ln) (wrg : Int) (k : Nat) : List Nat := (List.range k).filter (strF np nl pl ls wrg)
def srfL (np nl : Nat) (pl : List Sp) (ls : List Ln) (wrg : Int) : List Nat := srfK np nl pl ls wrg nl
section
variable {np nl : Nat} {pl : List Sp} {ls : List Ln} {wrg : Int}
theorem srfK_succ {k : Nat} (h : strF np nl pl ls wrg k = true) : srfK np nl pl ls wrg (k + 1) = srfK np nl pl ls wrg k ++ [k] := by simp [srfK, List.range_succ, List.filter_append, h]
theorem srfK_no {k : Nat} (h : strF np nl pl ls wrg k = false) : srfK np nl pl ls wrg (k + 1) = srfK np nl pl ls wrg k := by simp [srfK, List.range_succ, List.filter_append, h]
theorem srfK_len (k : Nat) : (srfK np nl pl ls wrg k).length ≤ k := by
  have := List.length_filter_le (strF np nl pl ls wrg) (List.range k)
  simpa [srfK] using this
end
theorem bit_test0 (s n : Nat) : (bits .and .i64 ((s : Int) / 2 ^ n) 1 == 0) = !s.testBit n := by
  rw [← bit_test, i64_and1]
  rcases (by omega : ((s : Int) / 2 ^ n) % 2 = 0 ∨ ((s : Int) / 2 ^ n) % 2 = 1) with h | h <;> rw [h] <;> rfl
set_option maxRecDepth 100000 in
set_option maxHeartbeats 1600000 in
theorem refStrange_c (Ap Al : Option Addr) (np cp nl cl : Nat) (wrg : Int) (pl : List Sp) (ls : List Ln) (w : World) (hp : np ≤ 40) (hl : nl ≤ 40) (HP : SpsAt w Ap np pl) (HL : LnsAt w Al nl ls) :
    Calls Try.prog 34 #[.agg #[.slice Ap np cp, .slice Al nl cl, .int .i64 wrg]] w
      fun e w' => (bif askF np nl pl ls wrg true == 0 then ∃ A c, e = .returned (.tuple #[.slice A (srfL np nl pl ls wrg).length c, .int .i64 0]) ∧ IntsAt w' A (srfL np nl pl ls wrg).length ((srfL np nl pl ls wrg).map fun k : Nat => (k : Int)) else e = .returned (.tuple #[.slice none 0 0, .int .i64 (askF np nl pl ls wrg true)])) ∧ Below w.heap.size w w' := by
  have HPI := Lib.hid HP
  have HLI := Lib.hid HL
  clear HP HL
  obtain ⟨z, hz⟩ : ∃ z, askF np nl pl ls wrg true = z := ⟨_, rfl⟩
  have hzI := Lib.hid hz
  cases h0 : (z == 0)
  · have HA : ∀ W, Below w.heap.size w W → Calls Try.prog 56 #[.agg #[.slice Ap np cp, .slice Al nl cl, .int .i64 wrg], .bool true] W fun e W' => e = .returned (.tuple #[.slice none 0 0, .int .i64 z]) ∧ Below W.heap.size W W' := fun W h => by
      have := refAsk_c Ap Al np cp nl cl wrg true pl ls W hp hl (HPI.out.later h) (HLI.out.later h)
      rw [hz, h0] at this
      exact this
    replace HA := Lib.hid HA
    have hne : z ≠ 0 := by simpa using h0
    rw [hz]
    simp only [h0, cond_false]
    clear hz
    go_enter Try.func34, Try.ntmps34
    go_wp2_with (go_at_call 56; refine (HA.out _ (by (repeat first | with_reducible assumption | with_reducible exact Below.refl _ _ | (with_reducible refine Below.alloc ?_ ?side _; case side => (first | omega | (with_reducible exact Below.size (by assumption)) | (simp; done) | (simp; omega))) | (with_reducible refine Below.setCell ?_ ?side _; case side => (first | omega | (with_reducible exact Below.size (by assumption)) | (simp; done) | (simp; omega))) | with_reducible refine Below.drew ?_ | with_reducible refine below_drewN ?_ _ | (with_reducible refine below_step (by assumption) ?side ?_; case side => (first | omega | (with_reducible exact Below.size (by assumption)) | (simp; done) | (simp; omega)))))).mono ?_; rintro e w2 ⟨rfl, hb2⟩; have z2 := hb2.size; simp only [World.size_alloc] at z2)
    exact bodyPost_ret (v := .tuple #[.slice none 0 0, .int .i64 z]) (by simp [results, Try.results34, go_sem]) rfl ⟨rfl, by (repeat first | with_reducible assumption | with_reducible exact Below.refl _ _ | (with_reducible refine Below.alloc ?_ ?side _; case side => (first | omega | (with_reducible exact Below.size (by assumption)) | (simp; done) | (simp; omega))) | (with_reducible refine Below.setCell ?_ ?side _; case side => (first | omega | (with_reducible exact Below.size (by assumption)) | (simp; done) | (simp; omega))) | with_reducible refine Below.drew ?_ | with_reducible refine below_drewN ?_ _ | (with_reducible refine below_step (by assumption) ?side ?_; case side => (first | omega | (with_reducible exact Below.size (by assumption)) | (simp; done) | (simp; omega))))⟩
  · obtain rfl : z = 0 := by simpa using h0
    obtain ⟨hck, -, -⟩ := askF_zero hzI.out
    have HA : ∀ W, Below w.heap.size w W → Calls Try.prog 56 #[.agg #[.slice Ap np cp, .slice Al nl cl, .int .i64 wrg], .bool true] W fun e W' => (∃ A c, e = .returned (.tuple #[.slice A (loL np nl pl ls wrg).length c, .int .i64 0]) ∧ IntsAt W' A (loL np nl pl ls wrg).length ((loL np nl pl ls wrg).map fun k : Nat => (k : Int))) ∧ Below W.heap.size W W' := fun W h => by
      have := refAsk_c Ap Al np cp nl cl wrg true pl ls W hp hl (HPI.out.later h) (HLI.out.later h)
      rw [hz] at this
      exact this
    replace HA := Lib.hid HA
    have hok := (okBk_of HPI.out.1 HLI.out.1 hck).1
    have hsz : np ≤ 5 ∧ nl ≤ 8 := ⟨hok.hp, hok.hl⟩
    have h256 : 2 ^ nl ≤ 256 := by
      have h2 : 2 ^ nl ≤ 2 ^ 8 := Nat.pow_le_pow_right (by omega) hsz.2
      omega
    obtain ⟨l, hll⟩ : ∃ l, loL np nl pl ls wrg = l := ⟨_, rfl⟩
    have HLT := Lib.hid (fun s (h : s ∈ l) => loL_lt (hll ▸ h : s ∈ loL np nl pl ls wrg))
    have hle : l.length ≤ 256 := by
      rw [← hll]
      have h1 := loK_len (np := np) (nl := nl) (pl := pl) (ls := ls) (most := wrg) (2 ^ nl)
      simp only [loL]
      omega
    have hsF : ∀ i, strF np nl pl ls wrg i = l.all fun s => s.testBit i := fun i => by rw [strF, hll]
    replace hsF := Lib.hid hsF
    rw [hll] at HA
    obtain ⟨M, hM⟩ : ∃ M, l.length = M := ⟨_, rfl⟩
    rw [hM] at HA hle
    have HM := Lib.hid hM
    replace h256 := Lib.hid h256
    rw [hz]
    simp only [h0, cond_true]
    clear hck h0 hz hok hll hM
    go_enter Try.func34, Try.ntmps34
    go_wp2_with (first
      | (go_at_call 56; refine (HA.out _ (by (repeat first | with_reducible assumption | with_reducible exact Below.refl _ _ | (with_reducible refine Below.alloc ?_ ?side _; case side => (first | omega | (with_reducible exact Below.size (by assumption)) | (simp; done) | (simp; omega))) | (with_reducible refine Below.setCell ?_ ?side _; case side => (first | omega | (with_reducible exact Below.size (by assumption)) | (simp; done) | (simp; omega))) | with_reducible refine Below.drew ?_ | with_reducible refine below_drewN ?_ _ | (with_reducible refine below_step (by assumption) ?side ?_; case side => (first | omega | (with_reducible exact Below.size (by assumption)) | (simp; done) | (simp; omega)))))).mono ?_; rintro e w2 ⟨⟨A, c, rfl, hI⟩, hb2⟩; have HI := Lib.hid hI; have z2 := hb2.size; simp only [World.size_alloc] at z2; have d0 := fun i => (hb2.cell (p := ⟨w.heap.size, i, none⟩) (by first | omega | (simp; done) | (simp; omega))).trans ((al1_0 rfl).2.1 i); have n0 : w.heap.size < w2.heap.size := (by omega); have BW : Below w.heap.size w w2 := (by (repeat first | with_reducible assumption | with_reducible exact Below.refl _ _ | (with_reducible refine Below.alloc ?_ ?side _; case side => (first | omega | (with_reducible exact Below.size (by assumption)) | (simp; done) | (simp; omega))) | (with_reducible refine Below.setCell ?_ ?side _; case side => (first | omega | (with_reducible exact Below.size (by assumption)) | (simp; done) | (simp; omega))) | with_reducible refine Below.drew ?_ | with_reducible refine below_drewN ?_ _ | (with_reducible refine below_step (by assumption) ?side ?_; case side => (first | omega | (with_reducible exact Below.size (by assumption)) | (simp; done) | (simp; omega))))); clear hI))
    have W_ := Lib.hid (World.ownsRow_nil w2 w2.heap.size 3 1)
    go_loopw [6, 7] (fun v i (wr : World) => ∃ k : Nat, k ≤ nl ∧ i = .int .i64 k ∧ Hid (wr.ownsRow w2.heap.size 3 1 v (srfK np nl pl ls wrg k).length (((srfK np nl pl ls wrg k).map fun j : Nat => (j : Int)).flatMap encI)) ∧ Below w2.heap.size w2 wr) (fun _ i _ => nl - (intOf i).toNat)
    case atStart => exact ⟨0, by omega, rfl, W_, Below.refl _ _⟩
    case round =>
      obtain ⟨k, hk, rfl, HO, hb⟩ := hrel
      have zb := hb.size
      have m0 : w.heap.size < wr.heap.size := by omega
      have qw := fun i => (hb.cell (p := ⟨w.heap.size, i, none⟩) n0).trans (d0 i)
      have hkl := srfK_len (np := np) (nl := nl) (pl := pl) (ls := ls) (wrg := wrg) k
      clear d0
      by_cases hlt : k < nl
      · have hltB : decide ((k : Int) < nl) = true := by simp; omega
        go_wp2_with fail
        obtain ⟨wo, rfl⟩ : ∃ wo : World, wo = wr := ⟨_, rfl⟩
        go_loopw [8, 9] (fun r i (ws : World) => ∃ j : Nat, j ≤ M ∧ i = .int .i64 j ∧ r = .bool ((l.take j).any fun s => !s.testBit k) ∧ Below wo.heap.size wo ws) (fun _ i _ => M - (intOf i).toNat)
        case atStart => exact ⟨0, by omega, rfl, rfl, Below.refl _ _⟩
        case round =>
          obtain ⟨j, hj, rfl, rfl, hbo⟩ := hrel
          have zo := hbo.size
          have m1 : w.heap.size < wr.heap.size := by omega
          by_cases hjl : j < M
          · have hjB : decide ((j : Int) < M) = true := by simp; omega
            have hkm : j < l.length := by rw [HM.out]; exact hjl
            obtain ⟨s, hs⟩ : ∃ s, l[j] = s := ⟨_, rfl⟩
            have hsm : s ∈ l := by rw [← hs]; exact List.getElem_mem hkm
            have hs2 := HLT.out s hsm
            have h256' := h256.out
            have hs256 : s < 256 := by omega
            have hb2r : Below w2.heap.size w2 wr := by (repeat first | with_reducible assumption | with_reducible exact Below.refl _ _ | (with_reducible refine Below.alloc ?_ ?side _; case side => (first | omega | (with_reducible exact Below.size (by assumption)) | (simp; done) | (simp; omega))) | (with_reducible refine Below.setCell ?_ ?side _; case side => (first | omega | (with_reducible exact Below.size (by assumption)) | (simp; done) | (simp; omega))) | with_reducible refine Below.drew ?_ | with_reducible refine below_drewN ?_ _ | (with_reducible refine below_step (by assumption) ?side ?_; case side => (first | omega | (with_reducible exact Below.size (by assumption)) | (simp; done) | (simp; omega))))
            obtain ⟨bl, ol, rfl, hbl, x0⟩ := (HI.out.later hb2r).get hjl
            have ei : iAt (l.map fun k : Nat => (k : Int)) j = (s : Int) := by
              unfold iAt; rw [List.getD_eq_getElem?_getD, List.getElem?_map, List.getElem?_eq_getElem hkm, hs]; rfl
            rw [ei] at x0
            have HS1 := Lib.hid (show ((l.take (j + 1)).any fun s => !s.testBit k) = (((l.take j).any fun s => !s.testBit k) || !s.testBit k) by rw [List.take_add_one, List.getElem?_eq_getElem hkm, hs]; simp)
            have hB := bit_test0 s k
            obtain ⟨r, hr⟩ : ∃ r, ((l.take j).any fun s => !s.testBit k) = r := ⟨_, rfl⟩
            rw [hr] at HS1 ⊢
            clear hs hsm hs2 h256' ei hkm hr
            cases r <;> cases e1 : s.testBit k
            all_goals
              rw [e1] at HS1 hB
              go_wp2_with fail
              refine ⟨⟨j + 1, by omega, by simp, by rw [HS1.out]; rfl, hbo⟩, by simp [intOf]; omega⟩
          · obtain rfl : M = j := by omega
            have hjB : decide (((M : Nat) : Int) < M) = false := by simp
            have hany : ((l.take M).any fun s => !s.testBit k) = !strF np nl pl ls wrg k := by
              rw [hsF.out, ← HM.out, List.take_length, List.not_all_eq_any_not]
            rw [hany]
            have HO1 := Lib.hid (own_below HO.out hbo)
            have hb2r : Below w2.heap.size w2 wr := by (repeat first | with_reducible assumption | with_reducible exact Below.refl _ _ | (with_reducible refine Below.alloc ?_ ?side _; case side => (first | omega | (with_reducible exact Below.size (by assumption)) | (simp; done) | (simp; omega))) | (with_reducible refine Below.setCell ?_ ?side _; case side => (first | omega | (with_reducible exact Below.size (by assumption)) | (simp; done) | (simp; omega))) | with_reducible refine Below.drew ?_ | with_reducible refine below_drewN ?_ _ | (with_reducible refine below_step (by assumption) ?side ?_; case side => (first | omega | (with_reducible exact Below.size (by assumption)) | (simp; done) | (simp; omega))))
            clear hany HO hbo hb
            cases e1 : strF np nl pl ls wrg k
            · have HNo := Lib.hid (srfK_no e1)
              go_wp2_with fail
              refine ⟨⟨k + 1, by omega, by simp, ?_, hb2r⟩, by simp [intOf]; omega⟩
              rw [HNo.out]; exact HO1
            · have HYe := Lib.hid (srfK_succ e1)
              go_wp2_with (at_builtin; go_must (refine wpList_append_T _ (d := (0 : Int)) rfl (.tmp 45) (.tmp 47) _ rfl w2.heap.size _ 1 8 intE encI_len encI_one u6 u6.ownBlock (srfK np nl pl ls wrg k).length ((srfK np nl pl ls wrg k).map fun j : Nat => (j : Int)) rfl rfl ?_ _ 1 _ [(k : Int)] rfl ?_ ?_ ?_ ?_; (exact own_below HO1.out (by (repeat first | with_reducible assumption | with_reducible exact Below.refl _ _ | (with_reducible refine Below.alloc ?_ ?side _; case side => (first | omega | (with_reducible exact Below.size (by assumption)) | (simp; done) | (simp; omega))) | (with_reducible refine Below.setCell ?_ ?side _; case side => (first | omega | (with_reducible exact Below.size (by assumption)) | (simp; done) | (simp; omega))) | with_reducible refine Below.drew ?_ | with_reducible refine below_drewN ?_ _ | (with_reducible refine below_step (by assumption) ?side ?_; case side => (first | omega | (with_reducible exact Below.size (by assumption)) | (simp; done) | (simp; omega)))))); (exact sl_new encI_len (by simp) rfl rfl); omega; (first | omega | (simp; done) | (simp; omega)); (intro v' w5 hown5 hg5 hat5; have hb5 : Below w2.heap.size w2 w5 := (Below.grown (by (repeat first | with_reducible assumption | with_reducible exact Below.refl _ _ | (with_reducible refine Below.alloc ?_ ?side _; case side => (first | omega | (with_reducible exact Below.size (by assumption)) | (simp; done) | (simp; omega))) | (with_reducible refine Below.setCell ?_ ?side _; case side => (first | omega | (with_reducible exact Below.size (by assumption)) | (simp; done) | (simp; omega))) | with_reducible refine Below.drew ?_ | with_reducible refine below_drewN ?_ _ | (with_reducible refine below_step (by assumption) ?side ?_; case side => (first | omega | (with_reducible exact Below.size (by assumption)) | (simp; done) | (simp; omega))))) hg5 (by first | omega | (simp; done) | (simp; omega)) (own_ge HO1.out)); have hown6 : Hid (w5.ownsRow w2.heap.size 3 1 v' (srfK np nl pl ls wrg (k + 1)).length (((srfK np nl pl ls wrg (k + 1)).map fun j : Nat => (j : Int)).flatMap encI)) := (by rw [HYe.out, List.length_append, List.map_append]; exact hown5); clear hown5 hg5 hat5)))
              refine ⟨⟨k + 1, by omega, by simp, hown6, hb5⟩, by simp [intOf]; omega⟩
      · obtain rfl : nl = k := by omega
        have hltB : decide (((nl : Nat) : Int) < nl) = false := by simp
        obtain ⟨A5, c5, rfl, -, hsl⟩ := SlAt.of_own (d := (0 : Int)) encI_len HO.out (by simp)
        have hsI := Lib.hid (ints_iff.2 hsl)
        clear hsl
        go_wp2_with fail
        exact bodyPost_ret (v := .tuple #[.slice A5 (srfK np nl pl ls wrg nl).length c5, .int .i64 0]) (by simp [results, Try.results34, go_sem]) rfl ⟨⟨A5, c5, rfl, hsI.out⟩, by (repeat first | with_reducible assumption | with_reducible exact Below.refl _ _ | (with_reducible refine Below.alloc ?_ ?side _; case side => (first | omega | (with_reducible exact Below.size (by assumption)) | (simp; done) | (simp; omega))) | (with_reducible refine Below.setCell ?_ ?side _; case side => (first | omega | (with_reducible exact Below.size (by assumption)) | (simp; done) | (simp; omega))) | with_reducible refine Below.drew ?_ | with_reducible refine below_drewN ?_ _ | (with_reducible refine below_step (by assumption) ?side ?_; case side => (first | omega | (with_reducible exact Below.size (by assumption)) | (simp; done) | (simp; omega))))⟩

end Go.Proofs.Ytoehifincdflhaa
