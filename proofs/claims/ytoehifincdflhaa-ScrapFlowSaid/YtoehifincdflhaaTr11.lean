/- nets and truths (layer 11): the iterators as values. -/
import Derived.Test.YtoehifincdflhaaIt11
namespace Go.Proofs.Ytoehifincdflhaa
open Go.RowKit
open Go.Sort (grow)
set_option linter.unusedVariables false

/-- what nets hands back -/
def NetsRet (Ap Al : Option Addr) (np cp nl cl : Nat) (wrg wrong : Int) (pl : List Sp) (ls : List Ln) (w : World) (e : Ending) (w' : World) : Prop :=
  ∃ b1 b2, e = .returned (.func (.func 72) #[] #[.pointer (some ⟨b1, 0, none⟩), .pointer (some ⟨b2, 0, none⟩)]) ∧ w.heap.size ≤ b1 ∧ w.heap.size ≤ b2 ∧
    NetMem b1 b2 Ap Al np cp nl cl wrg wrong pl ls w' ∧ Below w.heap.size w w'

set_option maxHeartbeats 400000 in
theorem nets_c (Ap Al : Option Addr) (np cp nl cl : Nat) (wrg wrong : Int) (pl : List Sp) (ls : List Ln) (w : World) (HP : SpsAt w Ap np pl) (HL : LnsAt w Al nl ls) :
    Calls Try.prog 51 #[.agg #[.slice Ap np cp, .slice Al nl cl, .int .i64 wrg], .int .i64 wrong] w (NetsRet Ap Al np cp nl cl wrg wrong pl ls w) := by
  have HPI := Lib.hid HP
  have HLI := Lib.hid HL
  clear HP HL
  go_enter Try.func51, Try.ntmps51
  go_wp2
  have hb : Below w.heap.size w ((w.alloc (.cells #[.slice Ap np cp, .slice Al nl cl, .int .i64 wrg] 25)).alloc (.cells #[.int .i64 wrong] 3)) := by (repeat first | with_reducible assumption | with_reducible exact Below.refl _ _ | refine below_drewN ?_ _ | refine Below.drew ?_ | refine Below.alloc ?_ (by first | omega | (with_reducible exact Below.size (by assumption)) | (simp; done) | (simp; omega)) _ | refine Below.setCell ?_ (by first | omega | (with_reducible exact Below.size (by assumption)) | (simp; done) | (simp; omega)) _ | refine below_step (by assumption) (by first | omega | (with_reducible exact Below.size (by assumption)) | (simp; done) | (simp; omega)) ?_)
  go_ret
  exact ⟨w.heap.size, w.heap.size + 1, rfl, Nat.le_refl _, Nat.le_succ _, ⟨(al2_0 rfl).2.1, (al2_1 rfl).2.1 0, HPI.out.later hb, HLI.out.later hb⟩, hb⟩

set_option maxHeartbeats 400000 in
theorem truths_c (Ap Al : Option Addr) (np cp nl cl : Nat) (wrg : Int) (pl : List Sp) (ls : List Ln) (w : World) (hl : nl ≤ 40) (HP : SpsAt w Ap np pl) (HL : LnsAt w Al nl ls) :
    Calls Try.prog 52 #[.agg #[.slice Ap np cp, .slice Al nl cl, .int .i64 wrg]] w (NetsRet Ap Al np cp nl cl wrg (min wrg nl) pl ls w) := by
  have HPI := Lib.hid HP
  have HLI := Lib.hid HL
  clear HP HL
  by_cases hle : wrg ≤ (nl : Int)
  · rw [show min wrg (nl : Int) = wrg by omega]
    go_enter Try.func52, Try.ntmps52
    go_wp2_with fail
    refine (nets_c Ap Al np cp nl cl wrg _ pl ls _ (HPI.out.later (by (repeat first | with_reducible assumption | with_reducible exact Below.refl _ _ | refine below_drewN ?_ _ | refine Below.drew ?_ | refine Below.alloc ?_ (by first | omega | (with_reducible exact Below.size (by assumption)) | (simp; done) | (simp; omega)) _ | refine Below.setCell ?_ (by first | omega | (with_reducible exact Below.size (by assumption)) | (simp; done) | (simp; omega)) _ | refine below_step (by assumption) (by first | omega | (with_reducible exact Below.size (by assumption)) | (simp; done) | (simp; omega)) ?_))) (HLI.out.later (by (repeat first | with_reducible assumption | with_reducible exact Below.refl _ _ | refine below_drewN ?_ _ | refine Below.drew ?_ | refine Below.alloc ?_ (by first | omega | (with_reducible exact Below.size (by assumption)) | (simp; done) | (simp; omega)) _ | refine Below.setCell ?_ (by first | omega | (with_reducible exact Below.size (by assumption)) | (simp; done) | (simp; omega)) _ | refine below_step (by assumption) (by first | omega | (with_reducible exact Below.size (by assumption)) | (simp; done) | (simp; omega)) ?_)))).mono ?_
    rintro e w1 ⟨b1, b2, rfl, h1, h2, hm, hb1⟩
    have HM := Lib.hid hm
    have zs1 := hb1.size
    simp only [World.size_alloc] at h1 h2 zs1
    clear hm
    go_wp2
    go_ret
    exact ⟨b1, b2, rfl, by omega, by omega, HM.out, by (repeat first | with_reducible assumption | with_reducible exact Below.refl _ _ | refine below_drewN ?_ _ | refine Below.drew ?_ | refine Below.alloc ?_ (by first | omega | (with_reducible exact Below.size (by assumption)) | (simp; done) | (simp; omega)) _ | refine Below.setCell ?_ (by first | omega | (with_reducible exact Below.size (by assumption)) | (simp; done) | (simp; omega)) _ | refine below_step (by assumption) (by first | omega | (with_reducible exact Below.size (by assumption)) | (simp; done) | (simp; omega)) ?_)⟩
  · rw [show min wrg (nl : Int) = nl by omega]
    go_enter Try.func52, Try.ntmps52
    go_wp2_with fail
    refine (nets_c Ap Al np cp nl cl wrg _ pl ls _ (HPI.out.later (by (repeat first | with_reducible assumption | with_reducible exact Below.refl _ _ | refine below_drewN ?_ _ | refine Below.drew ?_ | refine Below.alloc ?_ (by first | omega | (with_reducible exact Below.size (by assumption)) | (simp; done) | (simp; omega)) _ | refine Below.setCell ?_ (by first | omega | (with_reducible exact Below.size (by assumption)) | (simp; done) | (simp; omega)) _ | refine below_step (by assumption) (by first | omega | (with_reducible exact Below.size (by assumption)) | (simp; done) | (simp; omega)) ?_))) (HLI.out.later (by (repeat first | with_reducible assumption | with_reducible exact Below.refl _ _ | refine below_drewN ?_ _ | refine Below.drew ?_ | refine Below.alloc ?_ (by first | omega | (with_reducible exact Below.size (by assumption)) | (simp; done) | (simp; omega)) _ | refine Below.setCell ?_ (by first | omega | (with_reducible exact Below.size (by assumption)) | (simp; done) | (simp; omega)) _ | refine below_step (by assumption) (by first | omega | (with_reducible exact Below.size (by assumption)) | (simp; done) | (simp; omega)) ?_)))).mono ?_
    rintro e w1 ⟨b1, b2, rfl, h1, h2, hm, hb1⟩
    have HM := Lib.hid hm
    have zs1 := hb1.size
    simp only [World.size_alloc] at h1 h2 zs1
    clear hm
    go_wp2
    go_ret
    exact ⟨b1, b2, rfl, by omega, by omega, HM.out, by (repeat first | with_reducible assumption | with_reducible exact Below.refl _ _ | refine below_drewN ?_ _ | refine Below.drew ?_ | refine Below.alloc ?_ (by first | omega | (with_reducible exact Below.size (by assumption)) | (simp; done) | (simp; omega)) _ | refine Below.setCell ?_ (by first | omega | (with_reducible exact Below.size (by assumption)) | (simp; done) | (simp; omega)) _ | refine below_step (by assumption) (by first | omega | (with_reducible exact Below.size (by assumption)) | (simp; done) | (simp; omega)) ?_)⟩

theorem lns_tame {B : Nat} {W W' : World} {n : Nat} {A : Option Addr} {xs : List Ln} (h : Tame B W W') (hx : LnsAt W A n xs) : LnsAt W' A n xs := ⟨hx.1, h.rows hx.2⟩
theorem pps_tame {B : Nat} {W W' : World} {n : Nat} {A : Option Addr} {xs : List Pp} (h : Tame B W W') (hx : PpsAt W A n xs) : PpsAt W' A n xs := ⟨hx.1, h.rows hx.2⟩
theorem NetMem.tame {b1 b2 : Nat} {Ap Al : Option Addr} {np cp nl cl : Nat} {wrg wrong : Int} {pl : List Sp} {ls : List Ln} {B : Nat} {W W' : World} (h : NetMem b1 b2 Ap Al np cp nl cl wrg wrong pl ls W) (ht : Tame B W W') :
    NetMem b1 b2 Ap Al np cp nl cl wrg wrong pl ls W' := by
  obtain ⟨h1, h2, h3, h4⟩ := h
  obtain ⟨o, ho, hc⟩ := cells_of_cell (a := ⟨b1, 0, none⟩) (h1 0)
  exact ⟨fun i => (World.cell?_of_block (a := ⟨b1, i, none⟩) (ht.heap ho hc)).trans (h1 i), ht.cell h2, ht.sps h3, lns_tame ht h4⟩
theorem NetMem.below {b1 b2 : Nat} {Ap Al : Option Addr} {np cp nl cl : Nat} {wrg wrong : Int} {pl : List Sp} {ls : List Ln} {W W' : World} (h : NetMem b1 b2 Ap Al np cp nl cl wrg wrong pl ls W) (hb : Below W.heap.size W W') :
    NetMem b1 b2 Ap Al np cp nl cl wrg wrong pl ls W' := h.tame (B := 0) (.of_below hb)

end Go.Proofs.Ytoehifincdflhaa
