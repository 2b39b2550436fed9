/- Good, Shackles of the specification, and same of the statements (layer 7). -/
import Derived.Test.YthjjakhmbgnnnaaRg7
import Derived.Test.YthjjakhmbgnnnaaFa7
namespace Go.Proofs.Ythjjakhmbgnnnaa
open Go.RowKit
open Go.Sort (grow)
set_option linter.unusedVariables false

theorem gv3 (n m : Nat) (ls : List Sp) (q : Cb) (l : List Int) : (ckC n ls q = false ∧ gvE n m ls q l = 70 ∧ gvG n m ls q l = false ∧ gvS n m ls q l = 0) ∨ (ckC n ls q = true ∧ isR n m l = false ∧ gvE n m ls q l = 1 ∧ gvG n m ls q l = false ∧ gvS n m ls q l = 0) ∨
    (ckC n ls q = true ∧ isR n m l = true ∧ gvE n m ls q l = 0 ∧ gvG n m ls q l = goodB q ls n (ofK l m) ∧ gvS n m ls q l = shk (ofK l m) n) := by
  cases h : ckC n ls q
  · have e : gvE n m ls q l = 70 := by rw [gvE, gv_ck h]
    exact .inl ⟨rfl, e, by rw [gvG, e]; rfl, by rw [gvS, e]; rfl⟩
  · cases h2 : isR n m l
    · have e : gvE n m ls q l = 1 := by rw [gvE, gv_bad h h2]
      exact .inr (.inl ⟨rfl, rfl, e, by rw [gvG, e]; rfl, by rw [gvS, e]; rfl⟩)
    · obtain ⟨a, b⟩ := gv_good h h2
      exact .inr (.inr ⟨rfl, rfl, a, b, by rw [gvS, a, gv_ok h h2]; rfl⟩)
set_option maxRecDepth 100000 in
set_option maxHeartbeats 1600000 in
theorem refGood_c (A B : Option Addr) (n c m d : Nat) (q : Cb) (ls : List Sp) (l : List Int) (w : World) (hn : n ≤ 40) (hm : m ≤ 40) (HL : SpsAt w A n ls) (HX : IntsAt w B m l) :
    Calls Try.prog 32 #[.agg #[.slice A n c, .int .i64 q.need, .int .i64 q.gap, .int .i64 q.doubt, .int .i64 q.joins, .int .i64 q.least], .slice B m d] w
      fun e w' => e = .returned (.tuple #[.bool (gvG n m ls q l), .int .i64 (gvE n m ls q l)]) ∧ Below w.heap.size w w' := by
  have hck : ∀ V, Below w.heap.size w V → Calls Try.prog 31 #[.agg #[.slice A n c, .int .i64 q.need, .int .i64 q.gap, .int .i64 q.doubt, .int .i64 q.joins, .int .i64 q.least]] V fun e w' => e = .returned (.int .i64 (erC (ckC n ls q))) ∧ Below V.heap.size V w' := fun V hV => refCheck_c A n c q ls V hn (HL.later hV)
  have hir : ∀ Z, Below w.heap.size w Z → Calls Try.prog 26 #[.agg #[.slice A n c, .int .i64 q.need, .int .i64 q.gap, .int .i64 q.doubt, .int .i64 q.joins, .int .i64 q.least], .slice B m d] Z fun e Z' => e = .returned (.bool (isR n m l)) ∧ Below Z.heap.size Z Z' := fun Z hZ =>
    IsRepair_c A B n c m d q l Z hn hm (HX.later hZ)
  rcases gv3 n m ls q l with ⟨h1, e1, e2, e3⟩ | ⟨h1, h2, e1, e2, e3⟩ | ⟨h1, h2, e1, e2, e3⟩
  · rw [h1, show erC false = 70 from rfl] at hck
    rw [e1, e2]
    replace hck := Lib.hid hck
    clear hir HL HX h1 e1 e2 e3
    go_enter Try.func32, Try.ntmps32
    go_wp2_with (go_at_call 31; refine (hck.out _ (by (repeat first | with_reducible assumption | with_reducible exact Below.refl _ _ | (with_reducible refine Below.alloc ?_ ?side _; case side => (first | omega | (with_reducible exact Below.size (by assumption)) | (simp; done) | (simp; omega))) | (with_reducible refine Below.setCell ?_ ?side _; case side => (first | omega | (with_reducible exact Below.size (by assumption)) | (simp; done) | (simp; omega))) | with_reducible refine Below.drew ?_ | with_reducible refine below_drewN ?_ _ | (with_reducible refine below_step (by assumption) ?side ?_; case side => (first | omega | (with_reducible exact Below.size (by assumption)) | (simp; done) | (simp; omega)))))).mono ?_; (rintro e w1 ⟨rfl, hb1⟩; obtain ⟨hc1, hf1⟩ := bcell hb1; have zs1 := hb1.size; (try simp at zs1); have n1_0 : w.heap.size < w1.heap.size := (by omega)))
    exact bodyPost_ret (v := .tuple #[.bool false, .int .i64 70]) (by simp [results, Try.results32, go_sem]) rfl ⟨rfl, by (repeat first | with_reducible assumption | with_reducible exact Below.refl _ _ | (with_reducible refine Below.alloc ?_ ?side _; case side => (first | omega | (with_reducible exact Below.size (by assumption)) | (simp; done) | (simp; omega))) | (with_reducible refine Below.setCell ?_ ?side _; case side => (first | omega | (with_reducible exact Below.size (by assumption)) | (simp; done) | (simp; omega))) | with_reducible refine Below.drew ?_ | with_reducible refine below_drewN ?_ _ | (with_reducible refine below_step (by assumption) ?side ?_; case side => (first | omega | (with_reducible exact Below.size (by assumption)) | (simp; done) | (simp; omega))))⟩
  · rw [h1, show erC true = 0 from rfl] at hck
    rw [h2] at hir
    rw [e1, e2]
    replace hck := Lib.hid hck
    replace hir := Lib.hid hir
    clear HL HX h1 h2 e1 e2 e3
    go_enter Try.func32, Try.ntmps32
    go_wp2_with (go_at_call 31; refine (hck.out _ (by (repeat first | with_reducible assumption | with_reducible exact Below.refl _ _ | (with_reducible refine Below.alloc ?_ ?side _; case side => (first | omega | (with_reducible exact Below.size (by assumption)) | (simp; done) | (simp; omega))) | (with_reducible refine Below.setCell ?_ ?side _; case side => (first | omega | (with_reducible exact Below.size (by assumption)) | (simp; done) | (simp; omega))) | with_reducible refine Below.drew ?_ | with_reducible refine below_drewN ?_ _ | (with_reducible refine below_step (by assumption) ?side ?_; case side => (first | omega | (with_reducible exact Below.size (by assumption)) | (simp; done) | (simp; omega)))))).mono ?_; (rintro e w1 ⟨rfl, hb1⟩; obtain ⟨hc1, hf1⟩ := bcell hb1; have zs1 := hb1.size; (try simp at zs1); have n1_0 : w.heap.size < w1.heap.size := (by omega)))
    have d0 := fun j => (hc1 w.heap.size j (by first | omega | (simp; done) | (simp; omega))).trans ((al1_0 rfl).2.1 j)
    have B1 : Below w.heap.size w w1 := by (repeat first | with_reducible assumption | with_reducible exact Below.refl _ _ | (with_reducible refine Below.alloc ?_ ?side _; case side => (first | omega | (with_reducible exact Below.size (by assumption)) | (simp; done) | (simp; omega))) | (with_reducible refine Below.setCell ?_ ?side _; case side => (first | omega | (with_reducible exact Below.size (by assumption)) | (simp; done) | (simp; omega))) | with_reducible refine Below.drew ?_ | with_reducible refine below_drewN ?_ _ | (with_reducible refine below_step (by assumption) ?side ?_; case side => (first | omega | (with_reducible exact Below.size (by assumption)) | (simp; done) | (simp; omega))))
    clear hc1 hf1
    go_wp2_with (go_at_call 26; refine (hir.out _ B1).mono ?_; (rintro e w2 ⟨rfl, hb2⟩; obtain ⟨hc2, hf2⟩ := bcell hb2; have zs2 := hb2.size; (try simp at zs2)))
    exact bodyPost_ret (v := .tuple #[.bool false, .int .i64 1]) (by simp [results, Try.results32, go_sem]) rfl ⟨rfl, by (repeat first | with_reducible assumption | with_reducible exact Below.refl _ _ | (with_reducible refine Below.alloc ?_ ?side _; case side => (first | omega | (with_reducible exact Below.size (by assumption)) | (simp; done) | (simp; omega))) | (with_reducible refine Below.setCell ?_ ?side _; case side => (first | omega | (with_reducible exact Below.size (by assumption)) | (simp; done) | (simp; omega))) | with_reducible refine Below.drew ?_ | with_reducible refine below_drewN ?_ _ | (with_reducible refine below_step (by assumption) ?side ?_; case side => (first | omega | (with_reducible exact Below.size (by assumption)) | (simp; done) | (simp; omega))))⟩
  · have hig : ∀ Z, Below w.heap.size w Z → Calls Try.prog 41 #[.agg #[.slice A n c, .int .i64 q.need, .int .i64 q.gap, .int .i64 q.doubt, .int .i64 q.joins, .int .i64 q.least], .slice B m d] Z fun e Z' => e = .returned (.bool (goodB q ls n (ofK l m))) ∧ Below Z.heap.size Z Z' := fun Z hZ => IsGood_c A B n c m d _ q ls l Z hn hm (HL.later hZ) (HX.later hZ) (bits_isR h2)
    rw [h1, show erC true = 0 from rfl] at hck
    rw [h2] at hir
    rw [e1, e2]
    obtain ⟨G, hG⟩ : ∃ G, goodB q ls n (ofK l m) = G := ⟨_, rfl⟩
    rw [hG] at hig ⊢
    replace hck := Lib.hid hck
    replace hir := Lib.hid hir
    replace hig := Lib.hid hig
    clear HL HX h1 h2 e1 e2 e3 hG
    go_enter Try.func32, Try.ntmps32
    go_wp2_with (go_at_call 31; refine (hck.out _ (by (repeat first | with_reducible assumption | with_reducible exact Below.refl _ _ | (with_reducible refine Below.alloc ?_ ?side _; case side => (first | omega | (with_reducible exact Below.size (by assumption)) | (simp; done) | (simp; omega))) | (with_reducible refine Below.setCell ?_ ?side _; case side => (first | omega | (with_reducible exact Below.size (by assumption)) | (simp; done) | (simp; omega))) | with_reducible refine Below.drew ?_ | with_reducible refine below_drewN ?_ _ | (with_reducible refine below_step (by assumption) ?side ?_; case side => (first | omega | (with_reducible exact Below.size (by assumption)) | (simp; done) | (simp; omega)))))).mono ?_; (rintro e w1 ⟨rfl, hb1⟩; obtain ⟨hc1, hf1⟩ := bcell hb1; have zs1 := hb1.size; (try simp at zs1); have n1_0 : w.heap.size < w1.heap.size := (by omega)))
    have d0 := fun j => (hc1 w.heap.size j (by first | omega | (simp; done) | (simp; omega))).trans ((al1_0 rfl).2.1 j)
    have B1 : Below w.heap.size w w1 := by (repeat first | with_reducible assumption | with_reducible exact Below.refl _ _ | (with_reducible refine Below.alloc ?_ ?side _; case side => (first | omega | (with_reducible exact Below.size (by assumption)) | (simp; done) | (simp; omega))) | (with_reducible refine Below.setCell ?_ ?side _; case side => (first | omega | (with_reducible exact Below.size (by assumption)) | (simp; done) | (simp; omega))) | with_reducible refine Below.drew ?_ | with_reducible refine below_drewN ?_ _ | (with_reducible refine below_step (by assumption) ?side ?_; case side => (first | omega | (with_reducible exact Below.size (by assumption)) | (simp; done) | (simp; omega))))
    clear hc1 hf1
    go_wp2_with fail
    refine (hir.out _ B1).mono ?_
    rintro e w2 ⟨rfl, hb2⟩
    have d2 := fun j => (hb2.cell (p := ⟨w.heap.size, j, none⟩) (by omega)).trans (d0 j)
    have B2 : Below w.heap.size w w2 := by (repeat first | with_reducible assumption | with_reducible exact Below.refl _ _ | (with_reducible refine Below.alloc ?_ ?side _; case side => (first | omega | (with_reducible exact Below.size (by assumption)) | (simp; done) | (simp; omega))) | (with_reducible refine Below.setCell ?_ ?side _; case side => (first | omega | (with_reducible exact Below.size (by assumption)) | (simp; done) | (simp; omega))) | with_reducible refine Below.drew ?_ | with_reducible refine below_drewN ?_ _ | (with_reducible refine below_step (by assumption) ?side ?_; case side => (first | omega | (with_reducible exact Below.size (by assumption)) | (simp; done) | (simp; omega))))
    have z2 := hb2.size
    go_wp2_with fail
    refine (hig.out _ B2).mono ?_
    rintro e w3 ⟨rfl, hb3⟩
    go_wp2
    exact bodyPost_ret (v := .tuple #[.bool G, .int .i64 0]) (by simp [results, Try.results32, go_sem]) rfl ⟨rfl, by (repeat first | with_reducible assumption | with_reducible exact Below.refl _ _ | (with_reducible refine Below.alloc ?_ ?side _; case side => (first | omega | (with_reducible exact Below.size (by assumption)) | (simp; done) | (simp; omega))) | (with_reducible refine Below.setCell ?_ ?side _; case side => (first | omega | (with_reducible exact Below.size (by assumption)) | (simp; done) | (simp; omega))) | with_reducible refine Below.drew ?_ | with_reducible refine below_drewN ?_ _ | (with_reducible refine below_step (by assumption) ?side ?_; case side => (first | omega | (with_reducible exact Below.size (by assumption)) | (simp; done) | (simp; omega))))⟩
set_option maxRecDepth 100000 in
set_option maxHeartbeats 1600000 in
theorem refShackles_c (A B : Option Addr) (n c m d : Nat) (q : Cb) (ls : List Sp) (l : List Int) (w : World) (hn : n ≤ 40) (hm : m ≤ 40) (HL : SpsAt w A n ls) (HX : IntsAt w B m l) :
    Calls Try.prog 34 #[.agg #[.slice A n c, .int .i64 q.need, .int .i64 q.gap, .int .i64 q.doubt, .int .i64 q.joins, .int .i64 q.least], .slice B m d] w
      fun e w' => e = .returned (.tuple #[.int .i64 (gvS n m ls q l), .int .i64 (gvE n m ls q l)]) ∧ Below w.heap.size w w' := by
  have hck : ∀ V, Below w.heap.size w V → Calls Try.prog 31 #[.agg #[.slice A n c, .int .i64 q.need, .int .i64 q.gap, .int .i64 q.doubt, .int .i64 q.joins, .int .i64 q.least]] V fun e w' => e = .returned (.int .i64 (erC (ckC n ls q))) ∧ Below V.heap.size V w' := fun V hV => refCheck_c A n c q ls V hn (HL.later hV)
  have hir : ∀ Z, Below w.heap.size w Z → Calls Try.prog 26 #[.agg #[.slice A n c, .int .i64 q.need, .int .i64 q.gap, .int .i64 q.doubt, .int .i64 q.joins, .int .i64 q.least], .slice B m d] Z fun e Z' => e = .returned (.bool (isR n m l)) ∧ Below Z.heap.size Z Z' := fun Z hZ =>
    IsRepair_c A B n c m d q l Z hn hm (HX.later hZ)
  rcases gv3 n m ls q l with ⟨h1, e1, e2, e3⟩ | ⟨h1, h2, e1, e2, e3⟩ | ⟨h1, h2, e1, e2, e3⟩
  · rw [h1, show erC false = 70 from rfl] at hck
    rw [e1, e3]
    replace hck := Lib.hid hck
    clear hir HL HX h1 e1 e2 e3
    go_enter Try.func34, Try.ntmps34
    go_wp2_with (go_at_call 31; refine (hck.out _ (by (repeat first | with_reducible assumption | with_reducible exact Below.refl _ _ | (with_reducible refine Below.alloc ?_ ?side _; case side => (first | omega | (with_reducible exact Below.size (by assumption)) | (simp; done) | (simp; omega))) | (with_reducible refine Below.setCell ?_ ?side _; case side => (first | omega | (with_reducible exact Below.size (by assumption)) | (simp; done) | (simp; omega))) | with_reducible refine Below.drew ?_ | with_reducible refine below_drewN ?_ _ | (with_reducible refine below_step (by assumption) ?side ?_; case side => (first | omega | (with_reducible exact Below.size (by assumption)) | (simp; done) | (simp; omega)))))).mono ?_; (rintro e w1 ⟨rfl, hb1⟩; obtain ⟨hc1, hf1⟩ := bcell hb1; have zs1 := hb1.size; (try simp at zs1); have n1_0 : w.heap.size < w1.heap.size := (by omega)))
    exact bodyPost_ret (v := .tuple #[.int .i64 0, .int .i64 70]) (by simp [results, Try.results34, go_sem]) rfl ⟨rfl, by (repeat first | with_reducible assumption | with_reducible exact Below.refl _ _ | (with_reducible refine Below.alloc ?_ ?side _; case side => (first | omega | (with_reducible exact Below.size (by assumption)) | (simp; done) | (simp; omega))) | (with_reducible refine Below.setCell ?_ ?side _; case side => (first | omega | (with_reducible exact Below.size (by assumption)) | (simp; done) | (simp; omega))) | with_reducible refine Below.drew ?_ | with_reducible refine below_drewN ?_ _ | (with_reducible refine below_step (by assumption) ?side ?_; case side => (first | omega | (with_reducible exact Below.size (by assumption)) | (simp; done) | (simp; omega))))⟩
  · rw [h1, show erC true = 0 from rfl] at hck
    rw [h2] at hir
    rw [e1, e3]
    replace hck := Lib.hid hck
    replace hir := Lib.hid hir
    clear HL HX h1 h2 e1 e2 e3
    go_enter Try.func34, Try.ntmps34
    go_wp2_with (go_at_call 31; refine (hck.out _ (by (repeat first | with_reducible assumption | with_reducible exact Below.refl _ _ | (with_reducible refine Below.alloc ?_ ?side _; case side => (first | omega | (with_reducible exact Below.size (by assumption)) | (simp; done) | (simp; omega))) | (with_reducible refine Below.setCell ?_ ?side _; case side => (first | omega | (with_reducible exact Below.size (by assumption)) | (simp; done) | (simp; omega))) | with_reducible refine Below.drew ?_ | with_reducible refine below_drewN ?_ _ | (with_reducible refine below_step (by assumption) ?side ?_; case side => (first | omega | (with_reducible exact Below.size (by assumption)) | (simp; done) | (simp; omega)))))).mono ?_; (rintro e w1 ⟨rfl, hb1⟩; obtain ⟨hc1, hf1⟩ := bcell hb1; have zs1 := hb1.size; (try simp at zs1); have n1_0 : w.heap.size < w1.heap.size := (by omega)))
    have d0 := fun j => (hc1 w.heap.size j (by first | omega | (simp; done) | (simp; omega))).trans ((al1_0 rfl).2.1 j)
    have B1 : Below w.heap.size w w1 := by (repeat first | with_reducible assumption | with_reducible exact Below.refl _ _ | (with_reducible refine Below.alloc ?_ ?side _; case side => (first | omega | (with_reducible exact Below.size (by assumption)) | (simp; done) | (simp; omega))) | (with_reducible refine Below.setCell ?_ ?side _; case side => (first | omega | (with_reducible exact Below.size (by assumption)) | (simp; done) | (simp; omega))) | with_reducible refine Below.drew ?_ | with_reducible refine below_drewN ?_ _ | (with_reducible refine below_step (by assumption) ?side ?_; case side => (first | omega | (with_reducible exact Below.size (by assumption)) | (simp; done) | (simp; omega))))
    clear hc1 hf1
    go_wp2_with (go_at_call 26; refine (hir.out _ B1).mono ?_; (rintro e w2 ⟨rfl, hb2⟩; obtain ⟨hc2, hf2⟩ := bcell hb2; have zs2 := hb2.size; (try simp at zs2)))
    exact bodyPost_ret (v := .tuple #[.int .i64 0, .int .i64 1]) (by simp [results, Try.results34, go_sem]) rfl ⟨rfl, by (repeat first | with_reducible assumption | with_reducible exact Below.refl _ _ | (with_reducible refine Below.alloc ?_ ?side _; case side => (first | omega | (with_reducible exact Below.size (by assumption)) | (simp; done) | (simp; omega))) | (with_reducible refine Below.setCell ?_ ?side _; case side => (first | omega | (with_reducible exact Below.size (by assumption)) | (simp; done) | (simp; omega))) | with_reducible refine Below.drew ?_ | with_reducible refine below_drewN ?_ _ | (with_reducible refine below_step (by assumption) ?side ?_; case side => (first | omega | (with_reducible exact Below.size (by assumption)) | (simp; done) | (simp; omega))))⟩
  · have hig : ∀ Z, Below w.heap.size w Z → Calls Try.prog 59 #[.agg #[.slice A n c, .int .i64 q.need, .int .i64 q.gap, .int .i64 q.doubt, .int .i64 q.joins, .int .i64 q.least], .slice B m d] Z fun e Z' => e = .returned (.int .i64 (shk (ofK l m) n)) ∧ Below Z.heap.size Z Z' := fun Z hZ => ShacklesOf_c A B n c m d _ q l Z hn hm (HX.later hZ) (bits_isR h2)
    rw [h1, show erC true = 0 from rfl] at hck
    rw [h2] at hir
    rw [e1, e3]
    obtain ⟨G, hG⟩ : ∃ G, shk (ofK l m) n = G := ⟨_, rfl⟩
    rw [hG] at hig ⊢
    replace hck := Lib.hid hck
    replace hir := Lib.hid hir
    replace hig := Lib.hid hig
    clear HL HX h1 h2 e1 e2 e3 hG
    go_enter Try.func34, Try.ntmps34
    go_wp2_with (go_at_call 31; refine (hck.out _ (by (repeat first | with_reducible assumption | with_reducible exact Below.refl _ _ | (with_reducible refine Below.alloc ?_ ?side _; case side => (first | omega | (with_reducible exact Below.size (by assumption)) | (simp; done) | (simp; omega))) | (with_reducible refine Below.setCell ?_ ?side _; case side => (first | omega | (with_reducible exact Below.size (by assumption)) | (simp; done) | (simp; omega))) | with_reducible refine Below.drew ?_ | with_reducible refine below_drewN ?_ _ | (with_reducible refine below_step (by assumption) ?side ?_; case side => (first | omega | (with_reducible exact Below.size (by assumption)) | (simp; done) | (simp; omega)))))).mono ?_; (rintro e w1 ⟨rfl, hb1⟩; obtain ⟨hc1, hf1⟩ := bcell hb1; have zs1 := hb1.size; (try simp at zs1); have n1_0 : w.heap.size < w1.heap.size := (by omega)))
    have d0 := fun j => (hc1 w.heap.size j (by first | omega | (simp; done) | (simp; omega))).trans ((al1_0 rfl).2.1 j)
    have B1 : Below w.heap.size w w1 := by (repeat first | with_reducible assumption | with_reducible exact Below.refl _ _ | (with_reducible refine Below.alloc ?_ ?side _; case side => (first | omega | (with_reducible exact Below.size (by assumption)) | (simp; done) | (simp; omega))) | (with_reducible refine Below.setCell ?_ ?side _; case side => (first | omega | (with_reducible exact Below.size (by assumption)) | (simp; done) | (simp; omega))) | with_reducible refine Below.drew ?_ | with_reducible refine below_drewN ?_ _ | (with_reducible refine below_step (by assumption) ?side ?_; case side => (first | omega | (with_reducible exact Below.size (by assumption)) | (simp; done) | (simp; omega))))
    clear hc1 hf1
    go_wp2_with fail
    refine (hir.out _ B1).mono ?_
    rintro e w2 ⟨rfl, hb2⟩
    have d2 := fun j => (hb2.cell (p := ⟨w.heap.size, j, none⟩) (by omega)).trans (d0 j)
    have B2 : Below w.heap.size w w2 := by (repeat first | with_reducible assumption | with_reducible exact Below.refl _ _ | (with_reducible refine Below.alloc ?_ ?side _; case side => (first | omega | (with_reducible exact Below.size (by assumption)) | (simp; done) | (simp; omega))) | (with_reducible refine Below.setCell ?_ ?side _; case side => (first | omega | (with_reducible exact Below.size (by assumption)) | (simp; done) | (simp; omega))) | with_reducible refine Below.drew ?_ | with_reducible refine below_drewN ?_ _ | (with_reducible refine below_step (by assumption) ?side ?_; case side => (first | omega | (with_reducible exact Below.size (by assumption)) | (simp; done) | (simp; omega))))
    have z2 := hb2.size
    go_wp2_with fail
    refine (hig.out _ B2).mono ?_
    rintro e w3 ⟨rfl, hb3⟩
    go_wp2
    exact bodyPost_ret (v := .tuple #[.int .i64 G, .int .i64 0]) (by simp [results, Try.results34, go_sem]) rfl ⟨rfl, by (repeat first | with_reducible assumption | with_reducible exact Below.refl _ _ | (with_reducible refine Below.alloc ?_ ?side _; case side => (first | omega | (with_reducible exact Below.size (by assumption)) | (simp; done) | (simp; omega))) | (with_reducible refine Below.setCell ?_ ?side _; case side => (first | omega | (with_reducible exact Below.size (by assumption)) | (simp; done) | (simp; omega))) | with_reducible refine Below.drew ?_ | with_reducible refine below_drewN ?_ _ | (with_reducible refine below_step (by assumption) ?side ?_; case side => (first | omega | (with_reducible exact Below.size (by assumption)) | (simp; done) | (simp; omega))))⟩
set_option maxRecDepth 100000 in
set_option maxHeartbeats 1600000 in
theorem same_c (A B : Option Addr) (n c d : Nat) (q : Cb) (ls : List Sp) (w : World) (hn : n ≤ 40) (HA : SpsAt w A n ls) (HB : SpsAt w B n ls) :
    Calls Try.prog 25 #[.agg #[.slice A n c, .int .i64 q.need, .int .i64 q.gap, .int .i64 q.doubt, .int .i64 q.joins, .int .i64 q.least], .agg #[.slice B n d, .int .i64 q.need, .int .i64 q.gap, .int .i64 q.doubt, .int .i64 q.joins, .int .i64 q.least]] w fun e w' => e = .returned (.bool true) ∧ Below w.heap.size w w' := by
  have HAI := Lib.hid HA
  have HBI := Lib.hid HB
  clear HA HB
  go_enter Try.func25, Try.ntmps25
  go_wp2
  go_name_world W hW
  obtain ⟨hB, hz⟩ := al2 hW
  obtain ⟨l_0, q_0, f_0⟩ := al2_0 hW
  obtain ⟨l_1, q_1, f_1⟩ := al2_1 hW
  have HZ := Lib.hid hz
  have zs := hB.size
  clear hW hz
  go_loopw [5] (fun i (wr : World) => ∃ k : Nat, k ≤ n ∧ i = .int .i64 k ∧ Below W.heap.size W wr) (fun i _ => n - (intOf i).toNat)
  case atStart => exact ⟨0, by omega, rfl, Below.refl _ _⟩
  case round =>
    obtain ⟨k, hk, rfl, hb⟩ := hrel
    obtain ⟨hc, hf⟩ := bcell hb
    have zb := hb.size
    have m0 := Nat.lt_of_lt_of_le l_0 zb
    have m1 := Nat.lt_of_lt_of_le l_1 zb
    have hbw : Below w.heap.size w wr := by (repeat first | with_reducible assumption | with_reducible exact Below.refl _ _ | refine below_drewN ?_ _ | refine Below.drew ?_ | refine Below.alloc ?_ (by first | omega | (with_reducible exact Below.size (by assumption)) | (simp; done) | (simp; omega)) _ | refine Below.setCell ?_ (by first | omega | (with_reducible exact Below.size (by assumption)) | (simp; done) | (simp; omega)) _ | refine below_step (by assumption) (by first | omega | (with_reducible exact Below.size (by assumption)) | (simp; done) | (simp; omega)) ?_)
    by_cases hkn : k < n
    · have hknB : decide ((k : Int) < n) = true := by simp; omega
      obtain ⟨b1, o1, rfl, hb1, y0, y1⟩ := (HAI.out.later hbw).get hkn
      obtain ⟨b2, o2, rfl, hb2, z0, z1⟩ := (HBI.out.later hbw).get hkn
      obtain ⟨s, hs⟩ : ∃ s, spAt ls k = s := ⟨_, rfl⟩
      rw [hs] at y0 y1 z0 z1
      clear hs
      go_wp2
      go_quiet (fail)
      go_wp2
      go_roundw
      case rel => exact ⟨k + 1, by omega, by go_num, by (repeat first | with_reducible assumption | with_reducible exact Below.refl _ _ | (with_reducible refine Below.alloc ?_ ?side _; case side => (first | omega | (with_reducible exact Below.size (by assumption)) | (simp; done) | (simp; omega))) | (with_reducible refine Below.setCell ?_ ?side _; case side => (first | omega | (with_reducible exact Below.size (by assumption)) | (simp; done) | (simp; omega))) | with_reducible refine Below.drew ?_ | with_reducible refine below_drewN ?_ _ | (with_reducible refine below_step (by assumption) ?side ?_; case side => (first | omega | (with_reducible exact Below.size (by assumption)) | (simp; done) | (simp; omega))))⟩
      case measure => simp [intOf]; omega
    · obtain rfl : k = n := by omega
      have hknB : decide (((k : Nat) : Int) < k) = false := by simp
      go_wp2
      go_ret
      exact ⟨rfl, by (repeat first | with_reducible assumption | with_reducible exact Below.refl _ _ | refine below_drewN ?_ _ | refine Below.drew ?_ | refine Below.alloc ?_ (by first | omega | (with_reducible exact Below.size (by assumption)) | (simp; done) | (simp; omega)) _ | refine Below.setCell ?_ (by first | omega | (with_reducible exact Below.size (by assumption)) | (simp; done) | (simp; omega)) _ | refine below_step (by assumption) (by first | omega | (with_reducible exact Below.size (by assumption)) | (simp; done) | (simp; omega)) ?_)⟩

end Go.Proofs.Ythjjakhmbgnnnaa
