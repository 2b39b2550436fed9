/- ScrapThrough (layer 11), walked. -/
import Derived.Test.YtoehifincdflhaaTa11
import Derived.Test.YtoehifincdflhaaWk11
import Derived.Test.YtoehifincdflhaaFa11
namespace Go.Proofs.Ytoehifincdflhaa
open Go.RowKit
open Go.Sort (grow)
set_option linter.unusedVariables false

theorem flat_set {α : Type} {enc : α → List Value} {size : Nat} (hs : ∀ x, (enc x).length = size) (xs : List α) (k j : Nat) (y d : α) (u : Value) (hk : k < xs.length) (hj : j < size) (he : enc y = (enc (xs.getD k d)).set j u) : (xs.flatMap enc).set (k * size + j) u = (xs.set k y).flatMap enc := by
  induction xs generalizing k with
  | nil => simp at hk
  | cons x xs ih =>
    cases k with
    | zero =>
      simp only [List.flatMap_cons, List.set_cons_zero, Nat.zero_mul, Nat.zero_add]
      rw [List.set_append_left _ _ (by rw [hs]; exact hj)]
      rw [he]; rfl
    | succ k =>
      simp only [List.flatMap_cons, List.set_cons_succ]
      have e : (k + 1) * size + j = size + (k * size + j) := by rw [Nat.add_mul]; omega
      rw [e, List.set_append_right _ _ (by rw [hs]; omega), hs, Nat.add_sub_cancel_left]
      rw [ih k (by simpa using hk) (by simpa using he)]

theorem own_kept {w w' : World} {row : Option Nat} {base : Nat} {e : TypeId} {size : Nat} {v : Value} {n : Nat} {xs : List Value} (h : w.ownsRow base e size v n xs) (hg : w.grownBy w' row) (hne : ∀ k, v.ownBlock = some k → row ≠ some k) : w'.ownsRow base e size v n xs := by
  refine h.kept hg ?_
  cases e : v.ownBlock with
  | none => exact .inl rfl
  | some k => exact .inr fun h' => hne k e h'.symm

set_option maxRecDepth 100000 in
set_option maxHeartbeats 6400000 in
theorem Through_c (Ap Al : Option Addr) (np cp nl cl : Nat) (wrg line : Int) (pl : List Sp) (ls : List Ln) (w : World) (hp : np ≤ 40) (hl : nl ≤ 40) (HP : SpsAt w Ap np pl) (HL : LnsAt w Al nl ls) :
    Calls Try.prog 3 #[.agg #[.slice Ap np cp, .slice Al nl cl, .int .i64 wrg], .int .i64 line] w
      fun e w' => e = .returned (.bool true) ∧ Below w.heap.size w w' := by
  have HPI := Lib.hid HP
  have HLI := Lib.hid HL
  have lpI := Lib.hid HP.1
  have llI := Lib.hid HL.1
  clear HP HL
  cases hr : rdyB np nl pl ls wrg
  · go_enter Try.func3, Try.ntmps3
    go_wp2_with (first | (go_at_call 11; refine (ready_c Ap Al np cp nl cl wrg pl ls _ hp hl (HPI.out.later (by (repeat first | with_reducible assumption | with_reducible exact Below.refl _ _ | (with_reducible refine Below.alloc ?_ ?side _; case side => (first | omega | (with_reducible exact Below.size (by assumption)) | (simp; done) | (simp; omega))) | (with_reducible refine Below.setCell ?_ ?side _; case side => (first | omega | (with_reducible exact Below.size (by assumption)) | (simp; done) | (simp; omega))) | with_reducible refine Below.drew ?_ | with_reducible refine below_drewN ?_ _ | (with_reducible refine below_step (by assumption) ?side ?_; case side => (first | omega | (with_reducible exact Below.size (by assumption)) | (simp; done) | (simp; omega)))))) (HLI.out.later (by (repeat first | with_reducible assumption | with_reducible exact Below.refl _ _ | (with_reducible refine Below.alloc ?_ ?side _; case side => (first | omega | (with_reducible exact Below.size (by assumption)) | (simp; done) | (simp; omega))) | (with_reducible refine Below.setCell ?_ ?side _; case side => (first | omega | (with_reducible exact Below.size (by assumption)) | (simp; done) | (simp; omega))) | with_reducible refine Below.drew ?_ | with_reducible refine below_drewN ?_ _ | (with_reducible refine below_step (by assumption) ?side ?_; case side => (first | omega | (with_reducible exact Below.size (by assumption)) | (simp; done) | (simp; omega))))))).mono ?_; rw [hr]; (rintro e w1 ⟨rfl, hb1⟩; obtain ⟨hc1, hf1⟩ := bcell hb1; have zs1 := hb1.size; (try simp at zs1); have n1_0 : w.heap.size < w1.heap.size := (by omega))) | (go_at_call 13; refine (works_c _).mono ?_; (rintro e w2 ⟨rfl, hb2⟩)))
    go_ret
    exact ⟨rfl, by (repeat first | with_reducible assumption | with_reducible exact Below.refl _ _ | (with_reducible refine Below.alloc ?_ ?side _; case side => (first | omega | (with_reducible exact Below.size (by assumption)) | (simp; done) | (simp; omega))) | (with_reducible refine Below.setCell ?_ ?side _; case side => (first | omega | (with_reducible exact Below.size (by assumption)) | (simp; done) | (simp; omega))) | with_reducible refine Below.drew ?_ | with_reducible refine below_drewN ?_ _ | (with_reducible refine below_step (by assumption) ?side ?_; case side => (first | omega | (with_reducible exact Below.size (by assumption)) | (simp; done) | (simp; omega))))⟩
  obtain ⟨hck, hp4, hl6⟩ := rdyB_yes hr
  cases hi : isNo line nl
  · go_enter Try.func3, Try.ntmps3
    go_wp2_with (first | (go_at_call 11; refine (ready_c Ap Al np cp nl cl wrg pl ls _ hp hl (HPI.out.later (by (repeat first | with_reducible assumption | with_reducible exact Below.refl _ _ | (with_reducible refine Below.alloc ?_ ?side _; case side => (first | omega | (with_reducible exact Below.size (by assumption)) | (simp; done) | (simp; omega))) | (with_reducible refine Below.setCell ?_ ?side _; case side => (first | omega | (with_reducible exact Below.size (by assumption)) | (simp; done) | (simp; omega))) | with_reducible refine Below.drew ?_ | with_reducible refine below_drewN ?_ _ | (with_reducible refine below_step (by assumption) ?side ?_; case side => (first | omega | (with_reducible exact Below.size (by assumption)) | (simp; done) | (simp; omega)))))) (HLI.out.later (by (repeat first | with_reducible assumption | with_reducible exact Below.refl _ _ | (with_reducible refine Below.alloc ?_ ?side _; case side => (first | omega | (with_reducible exact Below.size (by assumption)) | (simp; done) | (simp; omega))) | (with_reducible refine Below.setCell ?_ ?side _; case side => (first | omega | (with_reducible exact Below.size (by assumption)) | (simp; done) | (simp; omega))) | with_reducible refine Below.drew ?_ | with_reducible refine below_drewN ?_ _ | (with_reducible refine below_step (by assumption) ?side ?_; case side => (first | omega | (with_reducible exact Below.size (by assumption)) | (simp; done) | (simp; omega))))))).mono ?_; rw [hr]; (rintro e w1 ⟨rfl, hb1⟩; obtain ⟨hc1, hf1⟩ := bcell hb1; have zs1 := hb1.size; (try simp at zs1); have n1_0 : w.heap.size < w1.heap.size := (by omega))) | (go_at_call 12; refine (IsLine_c _ _ _ _ _ _ _ _ _ hl).mono ?_; rw [hi]; (rintro e w3 ⟨rfl, hb3⟩; have zs3 := hb3.size)) | (go_at_call 13; refine (works_c _).mono ?_; (rintro e w2 ⟨rfl, hb2⟩)))
    go_ret
    exact ⟨rfl, by (repeat first | with_reducible assumption | with_reducible exact Below.refl _ _ | (with_reducible refine Below.alloc ?_ ?side _; case side => (first | omega | (with_reducible exact Below.size (by assumption)) | (simp; done) | (simp; omega))) | (with_reducible refine Below.setCell ?_ ?side _; case side => (first | omega | (with_reducible exact Below.size (by assumption)) | (simp; done) | (simp; omega))) | with_reducible refine Below.drew ?_ | with_reducible refine below_drewN ?_ _ | (with_reducible refine below_step (by assumption) ?side ?_; case side => (first | omega | (with_reducible exact Below.size (by assumption)) | (simp; done) | (simp; omega))))⟩
  obtain ⟨k, rfl, hk⟩ := isNo_of hi
  have HCK := Lib.hid hck
  clear hck
  go_enter Try.func3, Try.ntmps3
  go_wp2_with fail
  go_at_call 11
  refine (ready_c Ap Al np cp nl cl wrg pl ls _ hp hl (HPI.out.later (by (repeat first | with_reducible assumption | with_reducible exact Below.refl _ _ | (with_reducible refine Below.alloc ?_ ?side _; case side => (first | omega | (with_reducible exact Below.size (by assumption)) | (simp; done) | (simp; omega))) | (with_reducible refine Below.setCell ?_ ?side _; case side => (first | omega | (with_reducible exact Below.size (by assumption)) | (simp; done) | (simp; omega))) | with_reducible refine Below.drew ?_ | with_reducible refine below_drewN ?_ _ | (with_reducible refine below_step (by assumption) ?side ?_; case side => (first | omega | (with_reducible exact Below.size (by assumption)) | (simp; done) | (simp; omega)))))) (HLI.out.later (by (repeat first | with_reducible assumption | with_reducible exact Below.refl _ _ | (with_reducible refine Below.alloc ?_ ?side _; case side => (first | omega | (with_reducible exact Below.size (by assumption)) | (simp; done) | (simp; omega))) | (with_reducible refine Below.setCell ?_ ?side _; case side => (first | omega | (with_reducible exact Below.size (by assumption)) | (simp; done) | (simp; omega))) | with_reducible refine Below.drew ?_ | with_reducible refine below_drewN ?_ _ | (with_reducible refine below_step (by assumption) ?side ?_; case side => (first | omega | (with_reducible exact Below.size (by assumption)) | (simp; done) | (simp; omega))))))).mono ?_
  rw [hr]
  (rintro e w1 ⟨rfl, hb1⟩; obtain ⟨hc1, hf1⟩ := bcell hb1; have zs1 := hb1.size; (try simp at zs1); have n1_0 : w.heap.size < w1.heap.size := (by omega))
  have d1 := fun i => (hc1 w.heap.size i (by first | omega | (simp; done) | (simp; omega))).trans ((al1_0 rfl).2.1 i)
  have bw1 : Below w.heap.size w w1 := by (repeat first | with_reducible assumption | with_reducible exact Below.refl _ _ | (with_reducible refine Below.alloc ?_ ?side _; case side => (first | omega | (with_reducible exact Below.size (by assumption)) | (simp; done) | (simp; omega))) | (with_reducible refine Below.setCell ?_ ?side _; case side => (first | omega | (with_reducible exact Below.size (by assumption)) | (simp; done) | (simp; omega))) | with_reducible refine Below.drew ?_ | with_reducible refine below_drewN ?_ _ | (with_reducible refine below_step (by assumption) ?side ?_; case side => (first | omega | (with_reducible exact Below.size (by assumption)) | (simp; done) | (simp; omega))))
  clear hc1 hf1 hb1
  go_wp2_with fail
  go_at_call 12
  refine (IsLine_c _ _ _ _ _ _ _ _ _ hl).mono ?_
  rw [hi]
  rintro e w2 ⟨rfl, hb2⟩
  have zs2 := hb2.size
  have d2 := fun i => (hb2.cell (p := ⟨w.heap.size, i, none⟩) n1_0).trans (d1 i)
  have n2 : w.heap.size < w2.heap.size := by omega
  have bw2 : Below w.heap.size w w2 := by (repeat first | with_reducible assumption | with_reducible exact Below.refl _ _ | (with_reducible refine Below.alloc ?_ ?side _; case side => (first | omega | (with_reducible exact Below.size (by assumption)) | (simp; done) | (simp; omega))) | (with_reducible refine Below.setCell ?_ ?side _; case side => (first | omega | (with_reducible exact Below.size (by assumption)) | (simp; done) | (simp; omega))) | with_reducible refine Below.drew ?_ | with_reducible refine below_drewN ?_ _ | (with_reducible refine below_step (by assumption) ?side ?_; case side => (first | omega | (with_reducible exact Below.size (by assumption)) | (simp; done) | (simp; omega))))
  clear d1 bw1 hb2 hr hi
  go_wp2_with fail
  go_at_call 14
  refine (Copy_c Ap Al np cp nl cl wrg pl ls _ hp hl (HPI.out.later (by (repeat first | with_reducible assumption | with_reducible exact Below.refl _ _ | (with_reducible refine Below.alloc ?_ ?side _; case side => (first | omega | (with_reducible exact Below.size (by assumption)) | (simp; done) | (simp; omega))) | (with_reducible refine Below.setCell ?_ ?side _; case side => (first | omega | (with_reducible exact Below.size (by assumption)) | (simp; done) | (simp; omega))) | with_reducible refine Below.drew ?_ | with_reducible refine below_drewN ?_ _ | (with_reducible refine below_step (by assumption) ?side ?_; case side => (first | omega | (with_reducible exact Below.size (by assumption)) | (simp; done) | (simp; omega)))))) (HLI.out.later (by (repeat first | with_reducible assumption | with_reducible exact Below.refl _ _ | (with_reducible refine Below.alloc ?_ ?side _; case side => (first | omega | (with_reducible exact Below.size (by assumption)) | (simp; done) | (simp; omega))) | (with_reducible refine Below.setCell ?_ ?side _; case side => (first | omega | (with_reducible exact Below.size (by assumption)) | (simp; done) | (simp; omega))) | with_reducible refine Below.drew ?_ | with_reducible refine below_drewN ?_ _ | (with_reducible refine below_step (by assumption) ?side ?_; case side => (first | omega | (with_reducible exact Below.size (by assumption)) | (simp; done) | (simp; omega))))))).mono ?_
  rintro e w3 ⟨A1, c1, A2, c2, rfl, hO, hb3⟩
  have HO := Lib.hid hO
  have zs3 := hb3.size
  have d3 := fun i => (hb3.cell (p := ⟨w.heap.size, i, none⟩) n2).trans (d2 i)
  have n3 : w.heap.size < w3.heap.size := by omega
  have bw3 : Below w.heap.size w w3 := by (repeat first | with_reducible assumption | with_reducible exact Below.refl _ _ | (with_reducible refine Below.alloc ?_ ?side _; case side => (first | omega | (with_reducible exact Below.size (by assumption)) | (simp; done) | (simp; omega))) | (with_reducible refine Below.setCell ?_ ?side _; case side => (first | omega | (with_reducible exact Below.size (by assumption)) | (simp; done) | (simp; omega))) | with_reducible refine Below.drew ?_ | with_reducible refine below_drewN ?_ _ | (with_reducible refine below_step (by assumption) ?side ?_; case side => (first | omega | (with_reducible exact Below.size (by assumption)) | (simp; done) | (simp; omega))))
  clear d2 bw2 hb3 hO
  go_wp2_with fail
  go_at_call 14
  refine (Copy_c A1 A2 np c1 nl c2 0 pl ls _ hp hl ((sps_iff.2 (sl_of_own encS_len HO.out.hp lpI.out)).later (by (repeat first | with_reducible assumption | with_reducible exact Below.refl _ _ | (with_reducible refine Below.alloc ?_ ?side _; case side => (first | omega | (with_reducible exact Below.size (by assumption)) | (simp; done) | (simp; omega))) | (with_reducible refine Below.setCell ?_ ?side _; case side => (first | omega | (with_reducible exact Below.size (by assumption)) | (simp; done) | (simp; omega))) | with_reducible refine Below.drew ?_ | with_reducible refine below_drewN ?_ _ | (with_reducible refine below_step (by assumption) ?side ?_; case side => (first | omega | (with_reducible exact Below.size (by assumption)) | (simp; done) | (simp; omega)))))) ((lns_iff.2 (sl_of_own encL_len HO.out.hl llI.out)).later (by (repeat first | with_reducible assumption | with_reducible exact Below.refl _ _ | (with_reducible refine Below.alloc ?_ ?side _; case side => (first | omega | (with_reducible exact Below.size (by assumption)) | (simp; done) | (simp; omega))) | (with_reducible refine Below.setCell ?_ ?side _; case side => (first | omega | (with_reducible exact Below.size (by assumption)) | (simp; done) | (simp; omega))) | with_reducible refine Below.drew ?_ | with_reducible refine below_drewN ?_ _ | (with_reducible refine below_step (by assumption) ?side ?_; case side => (first | omega | (with_reducible exact Below.size (by assumption)) | (simp; done) | (simp; omega))))))).mono ?_
  rintro e w4 ⟨A3, c3, A4, c4, rfl, hO4, hb4⟩
  have hO4' : BookOwn (w3.heap.size + 1) np nl A3 A4 c3 c4 pl ls w4 := by simpa using hO4
  have HO4 := Lib.hid hO4'
  have zs4 := hb4.size
  simp only [World.size_alloc] at zs4
  have d4 := fun i => (hb4.cell (p := ⟨w.heap.size, i, none⟩) (by first | omega | (simp; done) | (simp; omega))).trans ((World.cell?_alloc_lt _ _ ⟨w.heap.size, i, none⟩ n3).trans (d3 i))
  have e4 := fun i => (hb4.cell (p := ⟨w3.heap.size, i, none⟩) (by simp)).trans ((al1_0 rfl).2.1 i)
  have n4 : w.heap.size < w4.heap.size := by omega
  have m4 : w3.heap.size < w4.heap.size := by omega
  have b34 : Below w3.heap.size w3 w4 := by (repeat first | with_reducible assumption | with_reducible exact Below.refl _ _ | (with_reducible refine Below.alloc ?_ ?side _; case side => (first | omega | (with_reducible exact Below.size (by assumption)) | (simp; done) | (simp; omega))) | (with_reducible refine Below.setCell ?_ ?side _; case side => (first | omega | (with_reducible exact Below.size (by assumption)) | (simp; done) | (simp; omega))) | with_reducible refine Below.drew ?_ | with_reducible refine below_drewN ?_ _ | (with_reducible refine below_step (by assumption) ?side ?_; case side => (first | omega | (with_reducible exact Below.size (by assumption)) | (simp; done) | (simp; omega))))
  have HO3 := Lib.hid (And.intro (own_below HO.out.hp b34) (own_below HO.out.hl b34))
  have bw4 : Below w.heap.size w w4 := by (repeat first | with_reducible assumption | with_reducible exact Below.refl _ _ | (with_reducible refine Below.alloc ?_ ?side _; case side => (first | omega | (with_reducible exact Below.size (by assumption)) | (simp; done) | (simp; omega))) | (with_reducible refine Below.setCell ?_ ?side _; case side => (first | omega | (with_reducible exact Below.size (by assumption)) | (simp; done) | (simp; omega))) | with_reducible refine Below.drew ?_ | with_reducible refine below_drewN ?_ _ | (with_reducible refine below_step (by assumption) ?side ?_; case side => (first | omega | (with_reducible exact Below.size (by assumption)) | (simp; done) | (simp; omega))))
  clear d3 bw3 hb4 hO4 hO4' b34
  obtain ⟨bl, ol, rfl, hbl, x0, x1, x2, x3, x4, x5⟩ := (HLI.out.later bw4).get hk
  have L12 : (∀ k, (Value.slice A1 np c1).ownBlock = some k → k < w3.heap.size) ∧ (∀ k, (Value.slice A2 nl c2).ownBlock = some k → k < w3.heap.size) := ⟨fun k h => (HO.out.hp.lt k h).2, fun k h => (HO.out.hl.lt k h).2⟩
  have G3 : ∀ k, (Value.slice A3 np c3).ownBlock = some k → w3.heap.size + 1 ≤ k ∧ k < w4.heap.size := fun k h => HO4.out.hp.lt k h
  obtain ⟨g4, c4', e4s, hg4, hg4'⟩ := HO4.out.hl.form (by omega)
  injection e4s with e4a e4b e4c
  subst e4a e4c
  replace L12 := Lib.hid L12
  replace G3 := Lib.hid G3
  clear HO e4b
  go_wp2_with (at_builtin; go_must (refine wpList_append_T _ (d := (⟨0, 0⟩ : Sp)) rfl (.tmp 42) (.tmp 44) _ rfl (w3.heap.size + 1) _ 2 16 spE encS_len encS_one (.slice A3 np c3) _ np pl rfl rfl ?ow _ 1 _ [⟨0, 0⟩] rfl ?sl (by omega) ?bs ?mn))
  case sl => exact sl_new encS_len (by simp) rfl rfl
  case bs => first | omega | (simp; done) | (simp; omega)
  case ow => exact ((HO4.out.hp.alloc _).alloc _).alloc _
  case mn =>
  intro v5 w5 hown5 hg5 hat5
  have hown5' : w5.ownsRow (w3.heap.size + 1) 31 2 v5 (np + 1) ((oPl pl).flatMap encS) := by
    unfold oPl; rw [List.flatMap_append]; exact hown5
  obtain ⟨A5, c5, rfl, -, -⟩ := SlAt.of_own (d := (⟨0, 0⟩ : Sp)) encS_len hown5' (by simp [oPl, lpI.out])
  have HO5 := Lib.hid hown5'
  have z5 := hg5.size
  simp only [World.size_alloc] at z5
  have NE : ∀ g, (w3.heap.size + 1 ≤ g → w4.heap.size ≤ g) → some g ≠ (Value.slice A3 np c3).ownBlock := fun g hg e => by
    have := G3.out g e.symm
    have := hg (by omega)
    omega
  have d5 := fun i => (hg5.cell_far ⟨w.heap.size, i, none⟩ (by first | omega | (simp; done) | (simp; omega)) (NE w.heap.size (by omega))).trans ((World.cell?_alloc_lt _ _ ⟨w.heap.size, i, none⟩ (by first | omega | (simp; done) | (simp; omega))).trans ((World.cell?_alloc_lt _ _ ⟨w.heap.size, i, none⟩ (by first | omega | (simp; done) | (simp; omega))).trans ((World.cell?_alloc_lt _ _ ⟨w.heap.size, i, none⟩ (by first | omega | (simp; done) | (simp; omega))).trans (d4 i))))
  have e5 := fun i => (hg5.cell_far ⟨w3.heap.size, i, none⟩ (by first | omega | (simp; done) | (simp; omega)) (NE w3.heap.size (by omega))).trans ((World.cell?_alloc_lt _ _ ⟨w3.heap.size, i, none⟩ (by first | omega | (simp; done) | (simp; omega))).trans ((World.cell?_alloc_lt _ _ ⟨w3.heap.size, i, none⟩ (by first | omega | (simp; done) | (simp; omega))).trans ((World.cell?_alloc_lt _ _ ⟨w3.heap.size, i, none⟩ (by first | omega | (simp; done) | (simp; omega))).trans (e4 i))))
  have f5 := fun i => (hg5.cell_far ⟨w4.heap.size, i, none⟩ (by first | omega | (simp; done) | (simp; omega)) (NE w4.heap.size (by omega))).trans ((al3_0 rfl).2.1 i)
  have u5 := fun i => (hg5.frozen_far ⟨w4.heap.size, i, none⟩ (by first | omega | (simp; done) | (simp; omega)) (NE w4.heap.size (by omega))).trans ((al3_0 rfl).2.2 i)
  have g5 := fun i => (hg5.cell_far ⟨w4.heap.size + 1, i, none⟩ (by first | omega | (simp; done) | (simp; omega)) (NE (w4.heap.size + 1) (by omega))).trans ((al3_1 rfl).2.1 i)
  have b45 : Below (w3.heap.size + 1) w4 w5 := Below.grown (by (repeat first | with_reducible assumption | with_reducible exact Below.refl _ _ | (with_reducible refine Below.alloc ?_ ?side _; case side => (first | omega | (with_reducible exact Below.size (by assumption)) | (simp; done) | (simp; omega))) | (with_reducible refine Below.setCell ?_ ?side _; case side => (first | omega | (with_reducible exact Below.size (by assumption)) | (simp; done) | (simp; omega))) | with_reducible refine Below.drew ?_ | with_reducible refine below_drewN ?_ _ | (with_reducible refine below_step (by assumption) ?side ?_; case side => (first | omega | (with_reducible exact Below.size (by assumption)) | (simp; done) | (simp; omega))))) hg5 (by first | omega | (simp; done) | (simp; omega)) (fun k hk => (G3.out k hk).1)
  have P1 := Lib.hid (own_kept (((HO3.out.1.alloc _).alloc _).alloc _) hg5 (fun k h e => by have := L12.out.1 k h; have := (G3.out k e).1; omega))
  have P2 := Lib.hid (own_kept (((HO3.out.2.alloc _).alloc _).alloc _) hg5 (fun k h e => by have := L12.out.2 k h; have := (G3.out k e).1; omega))
  have P4 := Lib.hid (own_kept (((HO4.out.hl.alloc _).alloc _).alloc _) hg5 (fun k h e => HO4.out.ne k e h))
  have NE54 : ∀ k, (Value.slice A5 (np + 1) c5).ownBlock = some k → k ≠ g4 := by
    intro k h e
    subst e
    rcases hat5 with h' | h'
    · exact HO4.out.ne k (h'.symm.trans h) rfl
    · rw [h] at h'; simp at h'; try omega
  replace NE54 := Lib.hid NE54
  have NE5 : ∀ k, (Value.slice A5 (np + 1) c5).ownBlock = some k → k ≠ w4.heap.size := by
    intro k h e
    rcases hat5 with h' | h'
    · have := G3.out k (h'.symm.trans h); omega
    · rw [h] at h'; simp at h'; try omega
  replace NE5 := Lib.hid NE5
  have bw5 : Below w.heap.size w w5 := bw4.trans (b45.mono (by omega))
  have y4 : w5.cell? ⟨g4, k * 6, none⟩ = some (.int .i64 (lnAt ls k).fr) := (P4.out.cellAt (k * 6) (by omega)).trans (flat_get (d := (⟨0, 0, ⟨0, 0⟩, ⟨0, 0⟩⟩ : Ln)) encL_len ls k 0 (by omega) (by rw [llI.out]; exact hk))
  have t4 := P4.out.frozenAt (k * 6)
  have r1 : ¬ g4 = w4.heap.size := by omega
  have r2 : ¬ w4.heap.size = g4 := by omega
  have r3 : ¬ g4 = w4.heap.size + 1 := by omega
  have r4 : ¬ g4 = w3.heap.size := by omega
  have r5 : ¬ g4 = w.heap.size := by omega
  have r6 : ¬ w4.heap.size = w3.heap.size := by omega
  have r7 : ¬ w4.heap.size = w.heap.size := by omega
  have n5 : w.heap.size < w5.heap.size := by omega
  have m5 : w3.heap.size < w5.heap.size := by omega
  have k5 : w4.heap.size < w5.heap.size := by omega
  have l5 : w4.heap.size + 1 < w5.heap.size := by omega
  clear hown5 hown5' hat5 NE d4 e4 x0 x1 x2 x3 x4 x5 hg5 bw4 HO3 HO4
  go_wp2_with (at_builtin; go_must (refine wpList_append_T _ (d := (⟨0, 0, ⟨0, 0⟩, ⟨0, 0⟩⟩ : Ln)) rfl (.tmp 56) (.tmp 65) _ rfl (w3.heap.size + 1) _ 6 48 lnE encL_len encL_one (.slice (some ⟨g4, 0, none⟩) nl c4) _ nl (ls.set k { lnAt ls k with fr := np }) rfl rfl ?ow _ 1 _ [⟨(lnAt ls k).fr, np, (lnAt ls k).w, ⟨0, 0⟩⟩] rfl ?sl (by omega) ?bs ?mn))
  case sl => exact sl_new encL_len (by simp) rfl rfl
  case bs => first | omega | (simp; done) | (simp; omega)
  case ow =>
    refine World.ownsRow.alloc ?_ _
    have h1 := own_set P4.out (p := ⟨w4.heap.size, 0, none⟩) (u := .slice A5 (np + 1) c5) (fun k hk => by simp [Value.ownBlock] at hk; simp; omega)
    have h2 := h1.stored (k * 6) (.int .i64 np)
    rw [show k * 6 = k * 6 + 0 from rfl, flat_set encL_len ls k 0 { lnAt ls k with fr := (np : Int) } (⟨0, 0, ⟨0, 0⟩, ⟨0, 0⟩⟩ : Ln) _ (by rw [llI.out]; exact hk) (by omega) rfl] at h2
    exact h2.1
  case mn =>
  intro v6 w6 hown6 hg6 hat6
  have hown6' : w6.ownsRow (w3.heap.size + 1) 33 6 v6 (nl + 1) ((oLs np ls k).flatMap encL) := by
    unfold oLs; rw [List.flatMap_append]; exact hown6
  obtain ⟨A6, c6, rfl, -, -⟩ := SlAt.of_own (d := (⟨0, 0, ⟨0, 0⟩, ⟨0, 0⟩⟩ : Ln)) encL_len hown6' (by simp [oLs, llI.out])
  have HO6 := Lib.hid hown6'
  have z6 := hg6.size
  simp only [World.size_alloc, World.size_setCell] at z6
  have r5' : ¬ w.heap.size = g4 := by omega
  have r4' : ¬ w3.heap.size = g4 := by omega
  have FAR : ∀ g i, g < w5.heap.size → g ≠ g4 → w6.cell? ⟨g, i, none⟩ = (w5.setCell ⟨w4.heap.size, 0, none⟩ (.slice A5 (np + 1) c5)).cell? ⟨g, i, none⟩ := fun g i hlt hne =>
    (hg6.cell_far ⟨g, i, none⟩ (by first | omega | (simp; done) | (simp; omega)) (by simp [Value.ownBlock]; exact hne)).trans ((World.cell?_alloc_lt _ _ ⟨g, i, none⟩ (by simpa using hlt)).trans (World.cell?_setCell_other _ _ _ _ (by intro e; injection e with e1; exact hne e1.symm)))
  have FFR : ∀ g i, g < w5.heap.size → g ≠ g4 → w6.frozen? ⟨g, i, none⟩ = w5.frozen? ⟨g, i, none⟩ := fun g i hlt hne =>
    (hg6.frozen_far ⟨g, i, none⟩ (by first | omega | (simp; done) | (simp; omega)) (by simp [Value.ownBlock]; exact hne)).trans (by simp only [frozen?_alloc_cells, World.frozen?_setCell])
  have d6 := fun i => (FAR w.heap.size i n5 r5').trans ((World.cell?_setCell_other _ _ _ _ (by first | omega | (simp; done) | (simp; omega))).trans (d5 i))
  have e6 := fun i => (FAR w3.heap.size i m5 r4').trans ((World.cell?_setCell_other _ _ _ _ (by first | omega | (simp; done) | (simp; omega))).trans (e5 i))
  have f60 := (FAR w4.heap.size 0 k5 r2).trans (World.cell?_setCell_same _ _ (.slice A5 (np + 1) c5) (f5 0))
  have f61 := (FAR w4.heap.size 1 k5 r2).trans ((World.cell?_setCell_other _ _ _ _ (by simp)).trans (f5 1))
  have f62 := (FAR w4.heap.size 2 k5 r2).trans ((World.cell?_setCell_other _ _ _ _ (by simp)).trans (f5 2))
  have u6 := fun i => (FFR w4.heap.size i k5 r2).trans (u5 i)
  have b56 : Below (w3.heap.size + 1) w5 w6 := Below.grown (by (repeat first | with_reducible assumption | with_reducible exact Below.refl _ _ | (with_reducible refine Below.alloc ?_ ?side _; case side => (first | omega | (with_reducible exact Below.size (by assumption)) | (simp; done) | (simp; omega))) | (with_reducible refine Below.setCell ?_ ?side _; case side => (first | omega | (with_reducible exact Below.size (by assumption)) | (simp; done) | (simp; omega))) | with_reducible refine Below.drew ?_ | with_reducible refine below_drewN ?_ _ | (with_reducible refine below_step (by assumption) ?side ?_; case side => (first | omega | (with_reducible exact Below.size (by assumption)) | (simp; done) | (simp; omega))))) hg6 (by first | omega | (simp; done) | (simp; omega)) (fun k hk => by simp [Value.ownBlock] at hk; omega)
  have bw6 : Below w.heap.size w w6 := bw5.trans (b56.mono (by omega))
  have KS : ∀ {e : TypeId} {size : Nat} {v : Value} {n : Nat} {xs : List Value} {base : Nat}, w5.ownsRow base e size v n xs → (∀ k, v.ownBlock = some k → k ≠ w4.heap.size ∧ k ≠ g4) → w6.ownsRow base e size v n xs := fun h hne =>
    own_kept ((own_set (own_set h (fun k hk => (hne k hk).1)) (fun k hk => (hne k hk).2)).alloc _) hg6 (fun k hk e => by simp [Value.ownBlock] at e; exact (hne k hk).2 e.symm)
  have Q1 := Lib.hid (KS P1.out (fun k hk => by have := L12.out.1 k hk; omega))
  have Q2 := Lib.hid (KS P2.out (fun k hk => by have := L12.out.2 k hk; omega))
  have Q5 := Lib.hid (KS HO5.out (fun k hk => ⟨NE5.out k hk, NE54.out k hk⟩))
  have NE6 : ∀ k, (Value.slice A6 (nl + 1) c6).ownBlock = some k → k ≠ w4.heap.size := by
    intro k h e
    rcases hat6 with h' | h'
    · have := h'.symm.trans h; simp [Value.ownBlock] at this; omega
    · rw [h] at h'; simp at h'; try omega
  replace NE6 := Lib.hid NE6
  have n6 : w.heap.size < w6.heap.size := by omega
  have m6 : w3.heap.size < w6.heap.size := by omega
  have k6 : w4.heap.size < w6.heap.size := by omega
  clear hown6 hown6' hat6 hg6 FAR FFR KS d5 e5 f5 u5 g5 y4 t4 P1 P2 P4 HO5 bw5 b45 b56 NE54
  go_wp2_with fail
  have SA1 := sl_of_own (d := (⟨0, 0⟩ : Sp)) encS_len (own_set Q1.out (p := ⟨w4.heap.size, 1, none⟩) (u := .slice A6 (nl + 1) c6) (fun j hj => by have := L12.out.1 j hj; simp; omega)) lpI.out
  have SA2 := sl_of_own (d := (⟨0, 0, ⟨0, 0⟩, ⟨0, 0⟩⟩ : Ln)) encL_len (own_set Q2.out (p := ⟨w4.heap.size, 1, none⟩) (u := .slice A6 (nl + 1) c6) (fun j hj => by have := L12.out.2 j hj; simp; omega)) llI.out
  have SA5 := sl_of_own (d := (⟨0, 0⟩ : Sp)) encS_len (own_set Q5.out (p := ⟨w4.heap.size, 1, none⟩) (u := .slice A6 (nl + 1) c6) (fun j hj => NE5.out j hj)) (by simp [oPl, lpI.out])
  have SA6 := sl_of_own (d := (⟨0, 0, ⟨0, 0⟩, ⟨0, 0⟩⟩ : Ln)) encL_len (own_set HO6.out (p := ⟨w4.heap.size, 1, none⟩) (u := .slice A6 (nl + 1) c6) (fun j hj => NE6.out j hj)) (by simp [oLs, llI.out])
  have D := fun i => (World.cell?_setCell_other w6 ⟨w4.heap.size, 1, none⟩ ⟨w.heap.size, i, none⟩ (.slice A6 (nl + 1) c6) (by first | omega | (simp; done) | (simp; omega))).trans (d6 i)
  have E := fun i => (World.cell?_setCell_other w6 ⟨w4.heap.size, 1, none⟩ ⟨w3.heap.size, i, none⟩ (.slice A6 (nl + 1) c6) (by first | omega | (simp; done) | (simp; omega))).trans (e6 i)
  have F0 := (World.cell?_setCell_other w6 ⟨w4.heap.size, 1, none⟩ ⟨w4.heap.size, 0, none⟩ (.slice A6 (nl + 1) c6) (by simp)).trans f60
  have F1 := World.cell?_setCell_same w6 ⟨w4.heap.size, 1, none⟩ (.slice A6 (nl + 1) c6) f61
  have F2 := (World.cell?_setCell_other w6 ⟨w4.heap.size, 1, none⟩ ⟨w4.heap.size, 2, none⟩ (.slice A6 (nl + 1) c6) (by simp)).trans f62
  have BW : Below w.heap.size w (w6.setCell ⟨w4.heap.size, 1, none⟩ (.slice A6 (nl + 1) c6)) := by (repeat first | with_reducible assumption | with_reducible exact Below.refl _ _ | (with_reducible refine Below.alloc ?_ ?side _; case side => (first | omega | (with_reducible exact Below.size (by assumption)) | (simp; done) | (simp; omega))) | (with_reducible refine Below.setCell ?_ ?side _; case side => (first | omega | (with_reducible exact Below.size (by assumption)) | (simp; done) | (simp; omega))) | with_reducible refine Below.drew ?_ | with_reducible refine below_drewN ?_ _ | (with_reducible refine below_step (by assumption) ?side ?_; case side => (first | omega | (with_reducible exact Below.size (by assumption)) | (simp; done) | (simp; omega))))
  obtain ⟨X, hX⟩ : ∃ X, w6.setCell ⟨w4.heap.size, 1, none⟩ (.slice A6 (nl + 1) c6) = X := ⟨_, rfl⟩
  have sX : X.heap.size = w6.heap.size := by rw [← hX]; simp
  rw [hX] at SA1 SA2 SA5 SA6 F0 F1 F2 BW ⊢
  simp only [hX] at D E
  have nX : w.heap.size < X.heap.size := by omega
  have mX : w3.heap.size < X.heap.size := by omega
  have kX : w4.heap.size < X.heap.size := by omega
  have zX := BW.size
  have SA1' : SpsAt X A1 np pl := sps_iff.2 SA1
  clear SA1
  have SA1 := Lib.hid SA1'
  clear SA1'
  have SA2' : LnsAt X A2 nl ls := lns_iff.2 SA2
  clear SA2
  have SA2 := Lib.hid SA2'
  clear SA2'
  have SA5' : SpsAt X A5 (np + 1) (oPl pl) := sps_iff.2 SA5
  clear SA5
  have SA5 := Lib.hid SA5'
  clear SA5'
  have SA6' : LnsAt X A6 (nl + 1) (oLs np ls k) := lns_iff.2 SA6
  clear SA6
  have SA6 := Lib.hid SA6'
  clear SA6'
  replace D := Lib.hid D
  replace E := Lib.hid E
  replace F0 := Lib.hid F0
  replace F1 := Lib.hid F1
  replace F2 := Lib.hid F2
  clear hX sX d6 e6 f60 f61 f62 u6 bw6 Q1 Q2 Q5 HO6 NE5 NE6 L12 G3
  go_at_call 11
  cases hro : rdyB (np + 1) (nl + 1) (oPl pl) (oLs np ls k) 0
  · refine (ready_c A5 A6 (np + 1) c5 (nl + 1) c6 0 (oPl pl) (oLs np ls k) X (by omega) (by omega) SA5.out SA6.out).mono ?_
    rw [hro]
    rintro e w7 ⟨rfl, hb7⟩
    go_wp2_with (go_at_call 13; refine (works_c _).mono ?_; (rintro e w8 ⟨rfl, hb8⟩))
    go_ret
    exact ⟨rfl, BW.trans ((hb7.trans (hb8.mono hb7.size)).mono zX)⟩
  refine (ready_c A5 A6 (np + 1) c5 (nl + 1) c6 0 (oPl pl) (oLs np ls k) X (by omega) (by omega) SA5.out SA6.out).mono ?_
  rw [hro]
  rintro e w7 ⟨rfl, hb7⟩
  obtain ⟨hckO, hpO, hlO⟩ := rdyB_yes hro
  obtain ⟨z, hkn, ⟨la, lb, hL1, hL2⟩, hLi, ⟨ka, kb, hK1, hK2⟩⟩ := thru_vals (by omega) (by omega) hk lpI.out llI.out (ckBk_0 HCK.out) hckO
  have HL1 := Lib.hid hL1
  have HL2 := Lib.hid hL2
  have HLi := Lib.hid hLi
  have HK1 := Lib.hid hK1
  have HK2 := Lib.hid hK2
  clear hro hL1 hL2 hLi hK1 hK2 hckO
  have z7 := hb7.size
  have e7 := fun i => (hb7.cell (p := ⟨w3.heap.size, i, none⟩) mX).trans (E.out i)
  have g70 := (hb7.cell (p := ⟨w4.heap.size, 0, none⟩) kX).trans F0.out
  have g71 := (hb7.cell (p := ⟨w4.heap.size, 1, none⟩) kX).trans F1.out
  have g72 := (hb7.cell (p := ⟨w4.heap.size, 2, none⟩) kX).trans F2.out
  go_wp2_with fail
  refine (Lost_c A1 A2 np c1 nl c2 0 pl ls _ (by omega) (by omega) (SA1.out.later hb7) (SA2.out.later hb7)).mono ?_
  rw [HL1.out]
  rintro e w8 ⟨rfl, hb8⟩
  have B8 : Below X.heap.size X w8 := hb7.trans (hb8.mono z7)
  have z8 := hb8.size
  have k8 : w3.heap.size < w8.heap.size := by omega
  have l8 : w4.heap.size < w8.heap.size := by omega
  have e8 := fun i => (B8.cell (p := ⟨w3.heap.size, i, none⟩) mX).trans (E.out i)
  have g80 := (B8.cell (p := ⟨w4.heap.size, 0, none⟩) kX).trans F0.out
  have g81 := (B8.cell (p := ⟨w4.heap.size, 1, none⟩) kX).trans F1.out
  have g82 := (B8.cell (p := ⟨w4.heap.size, 2, none⟩) kX).trans F2.out
  clear e7 g70 g71 g72 hb8 hb7
  unfold vSp
  go_wp2_with fail
  have B8a : Below X.heap.size X (w8.alloc (.cells #[.int .i64 la, .int .i64 lb] 31)) := B8.alloc (by omega) _
  refine (Lost_c A5 A6 (np + 1) c5 (nl + 1) c6 0 (oPl pl) (oLs np ls k) _ (by omega) (by omega) (SA5.out.later B8a) (SA6.out.later B8a)).mono ?_
  rw [HL2.out]
  rintro e w9 ⟨rfl, hb9⟩
  have B9 : Below X.heap.size X w9 := B8a.trans (hb9.mono (by simp; omega))
  have z9 := hb9.size
  simp only [World.size_alloc] at z9
  have s8 := fun i => (hb9.cell (p := ⟨w8.heap.size, i, none⟩) (by simp)).trans ((al1_0 rfl).2.1 i)
  have l9 : w8.heap.size < w9.heap.size := by omega
  have d9 := fun i => (B9.cell (p := ⟨w.heap.size, i, none⟩) nX).trans (D.out i)
  have n9 : w.heap.size < w9.heap.size := by omega
  clear e8 g80 g81 g82 hb9 B8 B8a
  unfold vSp
  go_wp2_with (go_at_call 16; refine (isKnown_c _ _).mono ?_; rw [hkn]; rintro e w' ⟨rfl, rfl⟩)
  have B9a : Below X.heap.size X (w9.alloc (.cells #[.int .i64 la, .int .i64 lb] 31)) := B9.alloc (by omega) _
  clear s8 d9
  go_loopw [12] (fun i (wr : World) => ∃ j : Nat, j ≤ nl ∧ i = .int .i64 j ∧ Below X.heap.size X wr) (fun i _ => nl - (intOf i).toNat)
  case atStart => exact ⟨0, by omega, rfl, B9a⟩
  case round =>
    obtain ⟨j, hj, rfl, hb⟩ := hrel
    have zb := hb.size
    have c1' := fun i => (hb.cell (p := ⟨w.heap.size, i, none⟩) nX).trans (D.out i)
    have c2' := fun i => (hb.cell (p := ⟨w3.heap.size, i, none⟩) mX).trans (E.out i)
    have c30 := (hb.cell (p := ⟨w4.heap.size, 0, none⟩) kX).trans F0.out
    have c31 := (hb.cell (p := ⟨w4.heap.size, 1, none⟩) kX).trans F1.out
    have c32 := (hb.cell (p := ⟨w4.heap.size, 2, none⟩) kX).trans F2.out
    by_cases hlt : j < nl
    · have hB : decide ((j : Int) < nl) = true := by simp; omega
      obtain ⟨ia, ib, hI1, hI2⟩ := HLi.out j hlt
      replace hI1 := Lib.hid hI1
      replace hI2 := Lib.hid hI2
      go_wp2_with fail
      refine (Line_c A1 A2 np c1 nl c2 0 j pl ls _ (by omega) (by omega) (SA1.out.later hb) (SA2.out.later hb)).mono ?_
      rw [hI1.out]
      rintro e v1 ⟨rfl, hv1⟩
      have V1 : Below X.heap.size X v1 := hb.trans (hv1.mono zb)
      have zv1 := hv1.size
      have c30 := (V1.cell (p := ⟨w4.heap.size, 0, none⟩) kX).trans F0.out
      have c31 := (V1.cell (p := ⟨w4.heap.size, 1, none⟩) kX).trans F1.out
      have c32 := (V1.cell (p := ⟨w4.heap.size, 2, none⟩) kX).trans F2.out
      have kv1 : w4.heap.size < v1.heap.size := by omega
      clear hv1 c1' c2'
      unfold vSp
      go_wp2_with fail
      have V1a : Below X.heap.size X (v1.alloc (.cells #[.int .i64 ia, .int .i64 ib] 31)) := V1.alloc (by omega) _
      refine (Line_c A5 A6 (np + 1) c5 (nl + 1) c6 0 j (oPl pl) (oLs np ls k) _ (by omega) (by omega) (SA5.out.later V1a) (SA6.out.later V1a)).mono ?_
      rw [hI2.out]
      rintro e v2 ⟨rfl, hv2⟩
      have V2 : Below X.heap.size X v2 := V1a.trans (hv2.mono (by simp; omega))
      have zv2 := hv2.size
      simp only [World.size_alloc] at zv2
      have s8 := fun i => (hv2.cell (p := ⟨v1.heap.size, i, none⟩) (by simp)).trans ((al1_0 rfl).2.1 i)
      have l9 : v1.heap.size < v2.heap.size := by omega
      clear hv2 c30 c31 c32
      unfold vSp
      go_wp2
      refine ⟨⟨j + 1, by omega, by simp, V2.alloc (by omega) _⟩, by simp [intOf]; omega⟩
    · obtain rfl : j = nl := by omega
      have hB : decide (((j : Nat) : Int) < j) = false := by simp
      go_wp2_with fail
      refine (Line_c A1 A2 np c1 j c2 0 k pl ls _ (by omega) (by omega) (SA1.out.later hb) (SA2.out.later hb)).mono ?_
      rw [HK1.out]
      rintro e v1 ⟨rfl, hv1⟩
      have V1 : Below X.heap.size X v1 := hb.trans (hv1.mono zb)
      have zv1 := hv1.size
      have c1'' := fun i => (V1.cell (p := ⟨w.heap.size, i, none⟩) nX).trans (D.out i)
      have c30 := (V1.cell (p := ⟨w4.heap.size, 0, none⟩) kX).trans F0.out
      have c31 := (V1.cell (p := ⟨w4.heap.size, 1, none⟩) kX).trans F1.out
      have c32 := (V1.cell (p := ⟨w4.heap.size, 2, none⟩) kX).trans F2.out
      have kv1 : w4.heap.size < v1.heap.size := by omega
      have nv1 : w.heap.size < v1.heap.size := by omega
      clear hv1 c1' c2'
      unfold vSp
      go_wp2_with fail
      have V1a : Below X.heap.size X (v1.alloc (.cells #[.int .i64 ka, .int .i64 kb] 31)) := V1.alloc (by omega) _
      refine (Line_c A5 A6 (np + 1) c5 (j + 1) c6 0 j (oPl pl) (oLs np ls k) _ (by omega) (by omega) (SA5.out.later V1a) (SA6.out.later V1a)).mono ?_
      rw [HK2.out]
      rintro e v2 ⟨rfl, hv2⟩
      have V2 : Below X.heap.size X v2 := V1a.trans (hv2.mono (by simp; omega))
      have zv2 := hv2.size
      simp only [World.size_alloc] at zv2
      have s8 := fun i => (hv2.cell (p := ⟨v1.heap.size, i, none⟩) (by simp)).trans ((al1_0 rfl).2.1 i)
      have l9 : v1.heap.size < v2.heap.size := by omega
      clear hv2 c30 c31 c32 c1''
      unfold vSp
      go_wp2_with (go_at_call 13; refine (works_c _).mono ?_; (rintro e v3 ⟨rfl, hv3⟩))
      go_ret
      exact ⟨rfl, BW.trans ((Below.trans (V2.alloc (by omega) _) (hv3.mono (by simp; omega))).mono zX)⟩

end Go.Proofs.Ytoehifincdflhaa
