/- Sawn of the specification (layer 11): all sawings, one by one. -/
import Derived.Handy
import Derived.Test.YtdhlnlmhdacblaaTs24
namespace Go.Proofs.Ytdhlnlmhdacblaa
open Go.RowKit
open Go.Sort (grow)
set_option linter.unusedVariables false
set_option linter.unusedSimpArgs false

/-- what is left of the first k bars, and what the saw takes of them -/
def rsS (bs : List Br) (ps : List Pc) (kf : Int) (l : List Nat) (k : Nat) : Int := ((List.range k).map fun b => rsB bs ps kf l b).sum
def kfS (kf : Int) (l : List Nat) (k : Nat) : Int := ((List.range k).map fun b => kf * ((l.count b - 1 : Nat) : Int)).sum
theorem rsS_0 {bs : List Br} {ps : List Pc} {kf : Int} {l : List Nat} : rsS bs ps kf l 0 = 0 := rfl
theorem kfS_0 {kf : Int} {l : List Nat} : kfS kf l 0 = 0 := rfl
theorem rsS_succ {bs : List Br} {ps : List Pc} {kf : Int} {l : List Nat} {k : Nat} : rsS bs ps kf l (k + 1) = rsS bs ps kf l k + rsB bs ps kf l k := sum_succ
theorem kfS_succ {kf : Int} {l : List Nat} {k : Nat} : kfS kf l (k + 1) = kfS kf l k + kf * ((l.count k - 1 : Nat) : Int) := sum_succ
theorem rsS_bd {bs : List Br} {ps : List Pc} {kf : Int} {l : List Nat} {nb : Nat} (h : ∀ b, b < nb → 0 ≤ rsB bs ps kf l b ∧ rsB bs ps kf l b ≤ 999) : ∀ k, k ≤ nb → 0 ≤ rsS bs ps kf l k ∧ rsS bs ps kf l k ≤ 999 * k := by
  intro k
  induction k with
  | zero => intro _; rw [rsS_0]; omega
  | succ k ih =>
    intro hk
    have h1 := ih (by omega)
    have h2 := h k (by omega)
    rw [rsS_succ]
    omega
theorem kfS_bd {kf : Int} {l : List Nat} {n : Nat} (hk : 0 ≤ kf ∧ kf ≤ 20) (hl : l.length ≤ n) : ∀ k, 0 ≤ kfS kf l k ∧ kfS kf l k ≤ 20 * n * k := by
  intro k
  induction k with
  | zero => rw [kfS_0]; omega
  | succ k ih =>
    have h2 := List.count_le_length (a := k) (l := l)
    have h3 : 0 ≤ kf * ((l.count k - 1 : Nat) : Int) := Int.mul_nonneg hk.1 (Int.natCast_nonneg _)
    have h4 : kf * ((l.count k - 1 : Nat) : Int) ≤ 20 * (n : Int) := by
      have a1 : kf * ((l.count k - 1 : Nat) : Int) ≤ 20 * ((l.count k - 1 : Nat) : Int) := Int.mul_le_mul_of_nonneg_right hk.2 (Int.natCast_nonneg _)
      omega
    rw [kfS_succ]
    have e : (20 * (n : Int)) * ((k + 1 : Nat) : Int) = 20 * n * k + 20 * n := by rw [Int.natCast_succ, Int.mul_add, Int.mul_one]
    rw [e]
    omega
theorem hAt_mem {hs : List Hd} {k : Nat} (h : k < hs.length) : hAt hs k ∈ hs := by
  unfold hAt
  rw [List.getD_eq_getElem?_getD, List.getElem?_eq_getElem h]
  exact List.getElem_mem h
theorem IntsAt.but3 {go gr gc n : Nat} {W W' : World} {A : Option Addr} {xs : List Int} (h : IntsAt W A n xs) (hb : But3 go gr gc W W') (ha : ∀ a, A = some a → a.block < W.heap.size ∧ a.block ≠ go ∧ a.block ≠ gr ∧ a.block ≠ gc) : IntsAt W' A n xs := by
  refine ⟨h.1, fun hn => ?_⟩
  obtain ⟨b, off, e, hbs, hc⟩ := h.2 hn
  obtain ⟨a1, a2, a3, a4⟩ := ha _ e
  exact ⟨b, off, e, Nat.lt_of_lt_of_le hbs hb.size, fun k hk j u hu => (hb.cell (p := ⟨b, off + k * 1 + j, none⟩) a1 ⟨a2, a3, a4⟩).trans (hc k hk j u hu)⟩
theorem count_take_succ {l : List Nat} {q k : Nat} (h : k < l.length) : (l.take (k + 1)).count q = (l.take k).count q + (bif ((l[k] : Nat) : Int) == (q : Int) then 1 else 0) := by
  rw [List.take_add_one, List.getElem?_eq_getElem h, Option.toList_some, List.count_append, List.count_singleton]
  congr 1
  by_cases e : l[k] = q
  · simp [e]
  · have e' : ¬ ((l[k] : Nat) : Int) = (q : Int) := by omega
    rw [show (((l[k] : Nat) : Int) == (q : Int)) = false by simpa using e']
    simp [e]
theorem toI_get {l : List Nat} {k : Nat} {x : Int} (hx : iAt (toI l) k = x) (h : k < l.length) : ((l[k] : Nat) : Int) = x := by
  rw [← hx]
  unfold iAt toI
  rw [List.getD_eq_getElem?_getD, List.getElem?_map, List.getElem?_eq_getElem h]; rfl
def SsRetW (T : List (List Nat)) (w : World) (e : Ending) (w' : World) : Prop := ∃ A c hs, e = .returned (.slice A T.length c) ∧ SsAt w' A T.length hs (T.map toI) ∧ Below w.heap.size w w' ∧ (∀ h ∈ hs, ∀ a, h.A = some a → w.heap.size ≤ a.block) ∧ ∀ a, A = some a → w.heap.size ≤ a.block
def SwRet (f g : List Nat → Int) (T : List (List Nat)) (w : World) (e : Ending) (w' : World) : Prop :=
  ∃ rl rh cl ch : Int, e = .returned (.tuple #[.agg #[.int .i64 rl, .int .i64 rh], .agg #[.int .i64 cl, .int .i64 ch], .int .i64 0]) ∧ RsInv f T T.length rl rh ∧ RsInv g T T.length cl ch ∧ Below w.heap.size w w'
section
variable (Ab Ap : Option Addr) (nb cb np cp : Nat) (kf wrg : Int) (bs : List Br) (ms : List Pm) (ps : List Pc) (w : World)
set_option maxHeartbeats 1600000 in
theorem refTruths_c (h1 : nb ≤ 40) (h2 : np ≤ 40) (h3 : ∀ k, k < np → (pcAt ps k).hs.length ≤ 40) (hsm : ckS bs ps kf wrg = true → nb ≤ 4 ∧ np ≤ 5) (HB : BrsAt w Ab nb bs) (HP : PcsAt w Ap np ms ps) :
    Calls Try.prog 19 #[.agg #[.slice Ab nb cb, .int .i64 kf, .slice Ap np cp, .int .i64 wrg]] w fun e w' => e = .returned (.int .i64 (askE bs ps kf wrg true)) ∧ Below w.heap.size w w' := by
  have htr : ∀ V, Below w.heap.size w V → Calls Try.prog 42 #[.agg #[.slice Ab nb cb, .int .i64 kf, .slice Ap np cp, .int .i64 wrg], .bool true] V (TrsRet (trsL bs ps kf wrg true) (askE bs ps kf wrg true) V) := fun V hV => reftruths_c Ab Ap nb cb np cp kf wrg bs ms ps V true h1 h2 h3 hsm (HB.later hV) (HP.later hV)
  obtain ⟨T, hT⟩ : ∃ T, trsL bs ps kf wrg true = T := ⟨_, rfl⟩
  obtain ⟨z, hz⟩ : ∃ T, askE bs ps kf wrg true = T := ⟨_, rfl⟩
  rw [hT, hz] at htr
  rw [hz]
  replace htr := Lib.hid htr
  clear HB HP h3 hsm hT hz
  go_enter Try.func19, Try.ntmps19
  go_wp2_with fail
  refine (htr.out _ (by (repeat first | with_reducible assumption | with_reducible exact Below.refl _ _ | (with_reducible refine Below.alloc ?_ ?side _; case side => (first | omega | (with_reducible exact Below.size (by assumption)) | (simp; done) | (simp; omega))) | (with_reducible refine Below.setCell ?_ ?side _; case side => (first | omega | (with_reducible exact Below.size (by assumption)) | (simp; done) | (simp; omega))) | with_reducible refine Below.drew ?_ | with_reducible refine below_drewN ?_ _ | (with_reducible refine below_step (by assumption) ?side ?_; case side => (first | omega | (with_reducible exact Below.size (by assumption)) | (simp; done) | (simp; omega)))))).mono ?_
  rintro e w1 ⟨A, c, hs, rfl, -, hb1, -⟩
  go_wp2_with fail
  exact bodyPost_ret (v := .int .i64 z) (by simp [results, Try.results19, go_sem]) rfl ⟨rfl, by (repeat first | with_reducible assumption | with_reducible exact Below.refl _ _ | (with_reducible refine Below.alloc ?_ ?side _; case side => (first | omega | (with_reducible exact Below.size (by assumption)) | (simp; done) | (simp; omega))) | (with_reducible refine Below.setCell ?_ ?side _; case side => (first | omega | (with_reducible exact Below.size (by assumption)) | (simp; done) | (simp; omega))) | with_reducible refine Below.drew ?_ | with_reducible refine below_drewN ?_ _ | (with_reducible refine below_step (by assumption) ?side ?_; case side => (first | omega | (with_reducible exact Below.size (by assumption)) | (simp; done) | (simp; omega))))⟩
set_option maxHeartbeats 1600000 in
theorem refSawings_c (h1 : nb ≤ 40) (h2 : np ≤ 40) (h3 : ∀ k, k < np → (pcAt ps k).hs.length ≤ 40) (hsm : ckS bs ps kf wrg = true → nb ≤ 4 ∧ np ≤ 5) (HB : BrsAt w Ab nb bs) (HP : PcsAt w Ap np ms ps) :
    Calls Try.prog 27 #[.agg #[.slice Ab nb cb, .int .i64 kf, .slice Ap np cp, .int .i64 wrg]] w (SsRetW (trsL bs ps kf wrg true) w) := by
  have htr : ∀ V, Below w.heap.size w V → Calls Try.prog 42 #[.agg #[.slice Ab nb cb, .int .i64 kf, .slice Ap np cp, .int .i64 wrg], .bool true] V (TrsRet (trsL bs ps kf wrg true) (askE bs ps kf wrg true) V) := fun V hV => reftruths_c Ab Ap nb cb np cp kf wrg bs ms ps V true h1 h2 h3 hsm (HB.later hV) (HP.later hV)
  obtain ⟨T, hT⟩ : ∃ T, trsL bs ps kf wrg true = T := ⟨_, rfl⟩
  obtain ⟨z, hz⟩ : ∃ T, askE bs ps kf wrg true = T := ⟨_, rfl⟩
  rw [hT, hz] at htr
  rw [hT]
  replace htr := Lib.hid htr
  clear HB HP h3 hsm hT hz
  go_enter Try.func27, Try.ntmps27
  go_wp2_with fail
  refine (htr.out _ (by (repeat first | with_reducible assumption | with_reducible exact Below.refl _ _ | (with_reducible refine Below.alloc ?_ ?side _; case side => (first | omega | (with_reducible exact Below.size (by assumption)) | (simp; done) | (simp; omega))) | (with_reducible refine Below.setCell ?_ ?side _; case side => (first | omega | (with_reducible exact Below.size (by assumption)) | (simp; done) | (simp; omega))) | with_reducible refine Below.drew ?_ | with_reducible refine below_drewN ?_ _ | (with_reducible refine below_step (by assumption) ?side ?_; case side => (first | omega | (with_reducible exact Below.size (by assumption)) | (simp; done) | (simp; omega)))))).mono ?_
  rintro e w1 ⟨A, c, hs, rfl, hss, hb1, -, hfr, hfa⟩
  have HSS := Lib.hid hss
  simp only [World.size_alloc] at hfr hfa
  have HFR := Lib.hid (fun h hh a ha => Nat.le_of_succ_le (hfr h hh a ha) : ∀ h ∈ hs, ∀ a, h.A = some a → w.heap.size ≤ a.block)
  have HFA := Lib.hid (fun a ha => Nat.le_of_succ_le (hfa a ha) : ∀ a, A = some a → w.heap.size ≤ a.block)
  clear hss hfr hfa
  go_wp2_with fail
  exact bodyPost_ret (v := .slice A T.length c) (by simp [results, Try.results27, go_sem]) rfl ⟨A, c, hs, rfl, HSS.out, by (repeat first | with_reducible assumption | with_reducible exact Below.refl _ _ | (with_reducible refine Below.alloc ?_ ?side _; case side => (first | omega | (with_reducible exact Below.size (by assumption)) | (simp; done) | (simp; omega))) | (with_reducible refine Below.setCell ?_ ?side _; case side => (first | omega | (with_reducible exact Below.size (by assumption)) | (simp; done) | (simp; omega))) | with_reducible refine Below.drew ?_ | with_reducible refine below_drewN ?_ _ | (with_reducible refine below_step (by assumption) ?side ?_; case side => (first | omega | (with_reducible exact Below.size (by assumption)) | (simp; done) | (simp; omega)))), HFR.out, HFA.out⟩
set_option maxRecDepth 100000 in
set_option maxHeartbeats 3200000 in
theorem refSawnE_c (h1 : nb ≤ 40) (h2 : np ≤ 40) (h3 : ∀ k, k < np → (pcAt ps k).hs.length ≤ 40) (hsm : ckS bs ps kf wrg = true → nb ≤ 4 ∧ np ≤ 5) (HB : BrsAt w Ab nb bs) (HP : PcsAt w Ap np ms ps) (hz : askE bs ps kf wrg true ≠ 0) :
    Calls Try.prog 10 #[.agg #[.slice Ab nb cb, .int .i64 kf, .slice Ap np cp, .int .i64 wrg]] w fun e w' => e = .returned (.tuple #[.agg #[.int .i64 0, .int .i64 0], .agg #[.int .i64 0, .int .i64 0], .int .i64 (askE bs ps kf wrg true)]) ∧ Below w.heap.size w w' := by
  have htr : ∀ V, Below w.heap.size w V → Calls Try.prog 19 #[.agg #[.slice Ab nb cb, .int .i64 kf, .slice Ap np cp, .int .i64 wrg]] V fun e w' => e = .returned (.int .i64 (askE bs ps kf wrg true)) ∧ Below V.heap.size V w' := fun V hV => refTruths_c Ab Ap nb cb np cp kf wrg bs ms ps V h1 h2 h3 hsm (HB.later hV) (HP.later hV)
  obtain ⟨z, hzz⟩ : ∃ z, askE bs ps kf wrg true = z := ⟨_, rfl⟩
  rw [hzz] at htr hz ⊢
  have hzB : (z != 0) = true := by simpa using hz
  replace htr := Lib.hid htr
  clear HB HP h3 hzz hsm
  go_enter Try.func10, Try.ntmps10
  go_upto_region 1 with (fail)
  go_name_world W hW
  obtain ⟨hB, hz⟩ := al3 hW
  obtain ⟨l_0, q_0, f_0⟩ := al3_0 hW
  obtain ⟨l_1, q_1, f_1⟩ := al3_1 hW
  obtain ⟨l_2, q_2, f_2⟩ := al3_2 hW
  have HZ := Lib.hid hz
  have zs := hB.size
  clear hW hz
  go_upto_region 2 with (go_at_call 19; with_reducible refine (htr.out _ (by (repeat first | with_reducible assumption | with_reducible exact Below.refl _ _ | (with_reducible refine Below.alloc ?_ ?side _; case side => (first | omega | (with_reducible exact Below.size (by assumption)) | (simp; done) | (simp; omega))) | (with_reducible refine Below.setCell ?_ ?side _; case side => (first | omega | (with_reducible exact Below.size (by assumption)) | (simp; done) | (simp; omega))) | with_reducible refine Below.drew ?_ | with_reducible refine below_drewN ?_ _ | (with_reducible refine below_step (by assumption) ?side ?_; case side => (first | omega | (with_reducible exact Below.size (by assumption)) | (simp; done) | (simp; omega)))))).mono ?_; rintro e w5 ⟨rfl, hb5⟩)
  have zz := hb5.size
  have n1 : w.heap.size + 1 < w5.heap.size := by omega
  have n2 : w.heap.size + 1 + 1 < w5.heap.size := by omega
  have c1 := fun j => (hb5.cell (p := ⟨w.heap.size + 1, j, none⟩) l_1).trans (q_1 j)
  have c2 := fun j => (hb5.cell (p := ⟨w.heap.size + 1 + 1, j, none⟩) l_2).trans (q_2 j)
  have g1 := fun j => (hb5.frozen (p := ⟨w.heap.size + 1, j, none⟩) l_1).trans (f_1 j)
  have g2 := fun j => (hb5.frozen (p := ⟨w.heap.size + 1 + 1, j, none⟩) l_2).trans (f_2 j)
  have BB : Below w.heap.size w w5 := hB.trans (hb5.mono zs)
  clear hb5 hB q_0 q_1 q_2 f_0 f_1 f_2
  go_wp2_with fail
  exact bodyPost_ret (v := .tuple #[.agg #[.int .i64 0, .int .i64 0], .agg #[.int .i64 0, .int .i64 0], .int .i64 z]) (by simp [results, Try.results10, go_sem, c1, c2]) rfl ⟨rfl, by (repeat first | with_reducible assumption | with_reducible exact Below.refl _ _ | (with_reducible refine Below.alloc ?_ ?side _; case side => (first | omega | (with_reducible exact Below.size (by assumption)) | (simp; done) | (simp; omega))) | (with_reducible refine Below.setCell ?_ ?side _; case side => (first | omega | (with_reducible exact Below.size (by assumption)) | (simp; done) | (simp; omega))) | with_reducible refine Below.drew ?_ | with_reducible refine below_drewN ?_ _ | (with_reducible refine below_step (by assumption) ?side ?_; case side => (first | omega | (with_reducible exact Below.size (by assumption)) | (simp; done) | (simp; omega))))⟩
set_option maxRecDepth 100000 in
set_option maxHeartbeats 6400000 in
theorem refSawnO_c (h1 : nb ≤ 40) (h2 : np ≤ 40) (h3 : ∀ k, k < np → (pcAt ps k).hs.length ≤ 40) (hsm : ckS bs ps kf wrg = true → nb ≤ 4 ∧ np ≤ 5) (HB : BrsAt w Ab nb bs) (HP : PcsAt w Ap np ms ps) (hz : askE bs ps kf wrg true = 0) :
    Calls Try.prog 10 #[.agg #[.slice Ab nb cb, .int .i64 kf, .slice Ap np cp, .int .i64 wrg]] w (SwRet (rsT bs ps kf) (kfC bs.length kf) (trL bs ps kf wrg) w) := by
  have htr : ∀ V, Below w.heap.size w V → Calls Try.prog 19 #[.agg #[.slice Ab nb cb, .int .i64 kf, .slice Ap np cp, .int .i64 wrg]] V fun e w' => e = .returned (.int .i64 (askE bs ps kf wrg true)) ∧ Below V.heap.size V w' := fun V hV => refTruths_c Ab Ap nb cb np cp kf wrg bs ms ps V h1 h2 h3 hsm (HB.later hV) (HP.later hV)
  have hsw : ∀ V, Below w.heap.size w V → Calls Try.prog 27 #[.agg #[.slice Ab nb cb, .int .i64 kf, .slice Ap np cp, .int .i64 wrg]] V (SsRetW (trsL bs ps kf wrg true) V) := fun V hV => refSawings_c Ab Ap nb cb np cp kf wrg bs ms ps V h1 h2 h3 hsm (HB.later hV) (HP.later hV)
  obtain ⟨-, hck, ht, hne⟩ := trs_of hz
  have hbl := HB.1
  have hpl := HP.pl
  obtain ⟨hn4, hp5⟩ := hsm hck
  have hkf := (ckS_vals hck).2.2.1
  have hro : ∀ (A : Option Addr) (c b : Nat) (l : List Nat) V, b < nb → l ∈ trL bs ps kf wrg → Below w.heap.size w V → IntsAt V A np (toI l) → Calls Try.prog 28 #[.agg #[.slice Ab nb cb, .int .i64 kf, .slice Ap np cp, .int .i64 wrg], .slice A np c, .int .i64 b] V fun e V' => e = .returned (.int .i64 (rsB bs ps kf l b)) ∧ Below V.heap.size V V' := fun A c b l V hb hl hV hI =>
    RestOf_c Ab Ap A nb cb np cp np c b kf wrg bs ms ps l V hck (HB.later hV) (HP.later hV) hI hb (Nat.le_refl _)
  have hlen : ∀ l ∈ trL bs ps kf wrg, l.length = np := fun l hl => by rw [(trL_mem.1 hl).1.1, hpl]
  have hrb : ∀ l ∈ trL bs ps kf wrg, ∀ b, b < nb → 0 ≤ rsB bs ps kf l b ∧ rsB bs ps kf l b ≤ 999 := fun l hl b hb => rs_bd hck hl (by rw [hbl]; exact hb)
  have hle1 : (trL bs ps kf wrg).length ≤ 1024 := trL_le (by rw [hbl]; omega) (by rw [hpl]; omega)
  have hrs : ∀ l, rsT bs ps kf l = rsS bs ps kf l nb := fun l => by unfold rsT rsS; rw [hbl]
  have hkc : ∀ l, kfC bs.length kf l = kfS kf l nb := fun l => by rw [hbl]; rfl
  rw [hz] at htr
  rw [ht] at hsw
  obtain ⟨T, hT⟩ : ∃ T, trL bs ps kf wrg = T := ⟨_, rfl⟩
  rw [hT] at hsw hlen hle1 hro hrb ⊢
  obtain ⟨m, hm⟩ : ∃ m, T.length = m := ⟨_, rfl⟩
  rw [hm] at hle1
  obtain ⟨F, hF⟩ : ∃ F, rsT bs ps kf = F := ⟨_, rfl⟩
  obtain ⟨G, hG⟩ : ∃ G, kfC bs.length kf = G := ⟨_, rfl⟩
  rw [hF] at hrs ⊢
  rw [hG] at hkc ⊢
  have HM := Lib.hid hm
  have HLEN := Lib.hid hlen
  have HRB := Lib.hid hrb
  have HRS := Lib.hid hrs
  have HKC := Lib.hid hkc
  replace htr := Lib.hid htr
  replace hsw := Lib.hid hsw
  replace hro := Lib.hid hro
  clear HB HP h3 hsm hck ht hne hz hT hm hlen hrb hrs hkc hF hG hbl hpl
  go_enter Try.func10, Try.ntmps10
  go_upto_region 1 with (fail)
  go_name_world X hX
  have BX : Below w.heap.size w X := (al3 hX).1
  have zX : X.heap.size = w.heap.size + 3 := (al3 hX).2
  have P0 := (al3_0 hX).2.1
  have K1 : Blk X (w.heap.size + 1) 29 #[.int .i64 0, .int .i64 0] := by
    rw [← hX]
    have h := (Blk.new (w.alloc (.cells #[.slice Ab nb cb, .int .i64 kf, .slice Ap np cp, .int .i64 wrg] 25)) 29 #[.int .i64 0, .int .i64 0]).alloc (.cells #[.int .i64 0, .int .i64 0] 29)
    simp only [World.size_alloc] at h
    exact h
  have K2 : Blk X (w.heap.size + 1 + 1) 29 #[.int .i64 0, .int .i64 0] := by
    rw [← hX]
    have h := Blk.new ((w.alloc (.cells #[.slice Ab nb cb, .int .i64 kf, .slice Ap np cp, .int .i64 wrg] 25)).alloc (.cells #[.int .i64 0, .int .i64 0] 29)) 29 #[.int .i64 0, .int .i64 0]
    simp only [World.size_alloc] at h
    exact h
  replace K1 := Lib.hid K1
  replace K2 := Lib.hid K2
  have lX : w.heap.size < X.heap.size := by omega
  clear hX
  go_upto_region 2 with (go_at_call 19; with_reducible refine (htr.out _ (by (repeat first | with_reducible assumption | with_reducible exact Below.refl _ _ | (with_reducible refine Below.alloc ?_ ?side _; case side => (first | omega | (with_reducible exact Below.size (by assumption)) | (simp; done) | (simp; omega))) | (with_reducible refine Below.setCell ?_ ?side _; case side => (first | omega | (with_reducible exact Below.size (by assumption)) | (simp; done) | (simp; omega))) | with_reducible refine Below.drew ?_ | with_reducible refine below_drewN ?_ _ | (with_reducible refine below_step (by assumption) ?side ?_; case side => (first | omega | (with_reducible exact Below.size (by assumption)) | (simp; done) | (simp; omega)))))).mono ?_; rintro e w5 ⟨rfl, hb5⟩)
  have z5 := hb5.size
  have l5 : w.heap.size < w5.heap.size := by omega
  have P5 := fun j => (hb5.cell (p := ⟨w.heap.size, j, none⟩) lX).trans (P0 j)
  have BB5 : Below w.heap.size w w5 := BX.trans (hb5.mono (by omega))
  have K15 := Lib.hid (K1.out.below hb5 K1.out.lt)
  have K25 := Lib.hid (K2.out.below hb5 K2.out.lt)
  clear hb5 P0 K1 K2 BX htr
  go_upto_region 5 with (go_at_call 27; (with_reducible refine (hsw.out _ (by (repeat first | with_reducible assumption | with_reducible exact Below.refl _ _ | (with_reducible refine Below.alloc ?_ ?side _; case side => (first | omega | (with_reducible exact Below.size (by assumption)) | (simp; done) | (simp; omega))) | (with_reducible refine Below.setCell ?_ ?side _; case side => (first | omega | (with_reducible exact Below.size (by assumption)) | (simp; done) | (simp; omega))) | with_reducible refine Below.drew ?_ | with_reducible refine below_drewN ?_ _ | (with_reducible refine below_step (by assumption) ?side ?_; case side => (first | omega | (with_reducible exact Below.size (by assumption)) | (simp; done) | (simp; omega)))))).mono ?_); rintro e w6 ⟨A6, c6, hs6, rfl, hss, hb6, hfr, hfa⟩)
  rw [HM.out] at hss
  have HSS := Lib.hid hss
  have HFR := Lib.hid hfr
  have HFA := Lib.hid hfa
  have z6 := hb6.size
  have KB := Lib.hid (BB5.trans (hb6.mono (by omega)))
  have C6 := Lib.hid (fun j => (hb6.cell (p := ⟨w.heap.size, j, none⟩) l5).trans (P5 j))
  have K16 := Lib.hid (K15.out.below hb6 K15.out.lt)
  have K26 := Lib.hid (K25.out.below hb6 K25.out.lt)
  have l6 : w.heap.size < w6.heap.size := by omega
  clear hss P5 BB5 K15 K25 hb6 hsw hfr hfa
  rw [HM.out]
  go_wp2_with fail
  go_loopw [7] (fun i (wr : World) => ∃ (k : Nat) (rl rh cl ch : Int), k ≤ m ∧ i = .int .i64 k ∧ Hid (Blk wr (w.heap.size + 1) 29 #[.int .i64 rl, .int .i64 rh]) ∧ Hid (Blk wr (w.heap.size + 1 + 1) 29 #[.int .i64 cl, .int .i64 ch]) ∧ Hid (RsInv F T k rl rh) ∧ Hid (RsInv G T k cl ch) ∧ Hid (But3 (w.heap.size + 1) (w.heap.size + 1 + 1) (w.heap.size + 1 + 1) w6 wr)) (fun i _ => m - (intOf i).toNat)
  case atStart => exact ⟨0, 0, 0, 0, 0, by omega, rfl, K16, K26, Lib.hid (.inl ⟨rfl, rfl, rfl⟩), Lib.hid (.inl ⟨rfl, rfl, rfl⟩), Lib.hid (But3.refl _ _ _ _)⟩
  case round =>
    obtain ⟨k, rl, rh, cl, ch, hk, rfl, H1, H2, I1, I2, HT⟩ := hrel
    obtain ⟨wo, rfl⟩ : ∃ wo : World, wo = wr := ⟨_, rfl⟩
    have zo := HT.out.size
    have hbw : Below w.heap.size w wo := HT.out.below ⟨by omega, by omega, by omega⟩ KB.out KB.out.size
    have m0 : w.heap.size < wo.heap.size := by omega
    have CO := Lib.hid (fun j => (HT.out.cell (p := ⟨w.heap.size, j, none⟩) l6 ⟨by show w.heap.size ≠ _; omega, by show w.heap.size ≠ _; omega, by show w.heap.size ≠ _; omega⟩).trans (C6.out j))
    by_cases hlt : k < m
    · have hqB : decide ((k : Int) < m) = true := by simp; omega
      have hmem := lAt_mem (L := T) (k := k) (by rw [HM.out]; exact hlt)
      obtain ⟨b1, o1, rfl, hb1, x1, i1⟩ := HSS.out.get hlt
      have hf1 := HFA.out _ rfl
      simp only at hf1
      have xo := (HT.out.cell (p := ⟨b1, o1 + k, none⟩) hb1 ⟨by show b1 ≠ _; omega, by show b1 ≠ _; omega, by show b1 ≠ _; omega⟩).trans x1
      have hb1o : b1 < wo.heap.size := by omega
      rw [xAt_map] at i1
      have hfh := HFR.out (hAt hs6 k) (hAt_mem (by rw [HSS.out.sl.1]; exact hlt))
      have bdh := HSS.out.bd k hlt
      have hll := HLEN.out _ hmem
      have hst := fun h0 => I1.out.step (k := k) h0
      have hst2 := fun h0 => I2.out.step (k := k) h0
      have hs1 : k = 0 → RsInv F T (k + 1) (F (lAt T k)) (F (lAt T k)) := fun e => by subst e; exact RsInv.first
      have hs2 : k = 0 → RsInv G T (k + 1) (G (lAt T k)) (G (lAt T k)) := fun e => by subst e; exact RsInv.first
      obtain ⟨l, hl⟩ : ∃ l, lAt T k = l := ⟨_, rfl⟩
      obtain ⟨h, hh⟩ : ∃ h, hAt hs6 k = h := ⟨_, rfl⟩
      rw [hl] at i1 hll hmem hst hs1 hst2 hs2
      rw [hh] at xo i1 hfh bdh
      have hnn : h.n = np := by rw [← hll, ← toI_len]; exact i1.1.symm
      rw [hnn] at i1 xo
      have io : IntsAt wo h.A np (toI l) := i1.but3 HT.out fun a ha => ⟨bdh a ha, by have := hfh a ha; omega, by have := hfh a ha; omega, by have := hfh a ha; omega⟩
      have HW := Lib.hid (fun b (hb : b < nb) V (hV : Below wo.heap.size wo V) => hro.out h.A h.c b l V hb hmem (hbw.trans (hV.mono hbw.size)) (io.later hV))
      have IO := Lib.hid io
      have HRL := Lib.hid (HRB.out l hmem)
      have HLL := Lib.hid hll
      rw [HRS.out l] at hst hs1
      rw [HKC.out l] at hst2 hs2
      have HST := Lib.hid hst
      have HS1 := Lib.hid hs1
      have HST2 := Lib.hid hst2
      have HS2 := Lib.hid hs2
      have HBW := Lib.hid hbw
      have cc := CO.out
      have RB := Lib.hid (rsS_bd (bs := bs) (ps := ps) (kf := kf) (l := l) (nb := nb) HRL.out)
      have KB2 := Lib.hid (kfS_bd (kf := kf) (l := l) (n := np) hkf (by rw [hll]; exact Nat.le_refl _))
      clear hl hh hmem io i1 hnn hll hst hs1 hst2 hs2 I1 I2 x1 hfh bdh hf1 hbw hb1
      go_wp2_with fail
      clear cc
      go_loopw [8, 9, 10] (fun r c b (wr : World) => ∃ q : Nat, q ≤ nb ∧ r = .int .i64 (rsS bs ps kf l q) ∧ c = .int .i64 (kfS kf l q) ∧ b = .int .i64 q ∧ Below wo.heap.size wo wr) (fun _ _ b _ => nb - (intOf b).toNat)
      case atStart => exact ⟨0, by omega, rfl, rfl, rfl, Below.refl _ _⟩
      case round =>
        obtain ⟨q, hq, rfl, rfl, rfl, hb⟩ := hrel
        have zb := hb.size
        have cc := fun j => (hb.cell (p := ⟨w.heap.size, j, none⟩) m0).trans (CO.out j)
        by_cases hqn : q < nb
        · have hqB2 : decide ((q : Int) < nb) = true := by simp; omega
          have xr := (hb.cell (p := ⟨b1, o1 + k, none⟩) hb1o).trans xo
          have n0 : w.heap.size < wr.heap.size := by omega
          have n1 : b1 < wr.heap.size := by omega
          have hw := fun V (hV : Below wr.heap.size wr V) => HW.out q hqn V (hb.trans (hV.mono zb))
          have g1 := HRL.out q hqn
          have g2 := RB.out q hq
          have g3 := KB2.out q
          have g4 := KB2.out (q + 1)
          have e1 := rsS_succ (bs := bs) (ps := ps) (kf := kf) (l := l) (k := q)
          have e2 := kfS_succ (kf := kf) (l := l) (k := q)
          obtain ⟨g, hg⟩ : ∃ g, rsB bs ps kf l q = g := ⟨_, rfl⟩
          obtain ⟨a, ha⟩ : ∃ g, rsS bs ps kf l q = g := ⟨_, rfl⟩
          obtain ⟨a', ha'⟩ : ∃ g, rsS bs ps kf l (q + 1) = g := ⟨_, rfl⟩
          obtain ⟨c, hc⟩ : ∃ g, kfS kf l q = g := ⟨_, rfl⟩
          obtain ⟨c', hc'⟩ : ∃ g, kfS kf l (q + 1) = g := ⟨_, rfl⟩
          obtain ⟨mv, hmv⟩ : ∃ g : Int, ((l.count q - 1 : Nat) : Int) = g := ⟨_, rfl⟩
          obtain ⟨kv, hkv⟩ : ∃ g : Int, kf * mv = g := ⟨_, rfl⟩
          rw [hg] at hw g1
          rw [ha] at g2 ⊢
          rw [hc] at g3 ⊢
          rw [hc'] at g4
          rw [ha', ha, hg] at e1
          rw [hc', hc, hmv, hkv] at e2
          have hcl : l.count q ≤ np := by have := List.count_le_length (a := q) (l := l); rw [HLL.out] at this; exact this
          have hb400 : (20 : Int) * np * q ≤ 4000 := by
            have k1 : ((np * q : Nat) : Int) ≤ ((5 * 4 : Nat) : Int) := Int.ofNat_le.2 (Nat.mul_le_mul hp5 (by omega))
            rw [Int.mul_assoc, ← Int.natCast_mul]
            omega
          have hb401 : (20 : Int) * np * ((q + 1 : Nat) : Int) ≤ 4000 := by
            have k1 : ((np * (q + 1) : Nat) : Int) ≤ ((5 * 4 : Nat) : Int) := Int.ofNat_le.2 (Nat.mul_le_mul hp5 (by omega))
            rw [Int.mul_assoc, ← Int.natCast_mul]
            omega
          have w1 : IntKind.i64.wrap (a + g) = a' := by rw [e1]; exact IntWalk.i64_in _ (by omega)
          have w2 : IntKind.i64.wrap (((l.count q : Nat) : Int) - 1) = ((l.count q : Nat) : Int) - 1 := IntWalk.i64_in _ (by omega)
          have w3 : max (0 : Int) (((l.count q : Nat) : Int) - 1) = mv := by rw [← hmv]; omega
          have w4 : IntKind.i64.wrap (kf * mv) = kv := by rw [hkv]; exact IntWalk.i64_in _ (by omega)
          have w5' : IntKind.i64.wrap (c + kv) = c' := by rw [e2]; exact IntWalk.i64_in _ (by omega)
          have HW2 := Lib.hid hw
          have HA := Lib.hid ha'
          have HC := Lib.hid hc'
          clear hw g1 g2 g3 g4 e1 e2 hg ha hc ha' hc' hmv hkv hb400 hb401
          go_upto_region 12 with (fail)
          have hcq := fun p : Regrown => (bcell (below_regrown wr p.d p.os)).1
          refine wp_region_quiet_below (by kernel_rfl) (by kernel_rfl) ?_
          repeat (go_big_quiet_step ((go_at_call 28; exact Calls.regrown_of (HW2.out _ (below_regrown _ _ _)))))
          refine wpQuiet_nil ?_
          intro wq hq
          obtain ⟨pq, hq⟩ := hq
          have hbq : Below wr.heap.size wr wq := by rw [hq]; exact below_regrown _ _ _
          clear hq hcq pq
          obtain ⟨hcq, hfq⟩ := bcell hbq
          have zq := hbq.size
          have xq := (hbq.cell (p := ⟨b1, o1 + k, none⟩) n1).trans xr
          have iq := Lib.hid (IO.out.later (hb.trans (hbq.mono zb)))
          have cq := fun j => (hbq.cell (p := ⟨w.heap.size, j, none⟩) n0).trans (cc j)
          clear xr cc hcq hfq
          have CQ := Lib.hid cq
          have XQ := Lib.hid xq
          have n2 : b1 < wq.heap.size := by omega
          go_wp2_with fail
          clear cq
          go_loopw [11, 12] (fun n i (ws : World) => ∃ j : Nat, j ≤ np ∧ n = .int .i64 ((l.take j).count q : Nat) ∧ i = .int .i64 j ∧ ws = wq) (fun _ i _ => np - (intOf i).toNat)
          case atStart => exact ⟨0, by omega, by simp, rfl, rfl⟩
          case round =>
            obtain ⟨j, hj, rfl, rfl, hws⟩ := hrel
            subst wr
            by_cases hjn : j < np
            · have hqB3 : decide ((j : Int) < np) = true := by simp; omega
              have hcs := count_take_succ (l := l) (q := q) (k := j) (by rw [HLL.out]; exact hjn)
              obtain ⟨b2, o2, hA2, hb2, y0⟩ := iq.out.get hjn
              rw [hA2] at xq
              obtain ⟨x, hx⟩ : ∃ x, iAt (toI l) j = x := ⟨_, rfl⟩
              rw [hx] at y0
              have hle := List.count_le_length (a := q) (l := l.take j)
              have hle2 : (l.take j).length ≤ j := by simp; omega
              rw [toI_get hx (by rw [HLL.out]; exact hjn)] at hcs
              obtain ⟨cn, hcn⟩ : ∃ n, (l.take j).count q = n := ⟨_, rfl⟩
              obtain ⟨cn', hcn'⟩ : ∃ n, (l.take (j + 1)).count q = n := ⟨_, rfl⟩
              rw [hcn, hcn'] at hcs
              rw [hcn] at hle ⊢
              have HCN := Lib.hid hcn'
              have hw9 : IntKind.i64.wrap ((cn : Int) + 1) = ((cn + 1 : Nat) : Int) := by rw [IntWalk.i64_in _ (by omega)]; omega
              clear hx hcn hcn'
              cases hxq : (x == (q : Int))
              · rw [hxq] at hcs
                simp only [cond_false, Nat.add_zero] at hcs
                have HCS := Lib.hid hcs
                clear hcs
                go_wp2_with fail
                go_roundw
                case rel => exact ⟨j + 1, by omega, by rw [HCN.out, HCS.out]; try go_num, by go_num, trivial⟩
                case measure => simp [intOf]; omega
              · rw [hxq] at hcs
                simp only [cond_true] at hcs
                have HCS := Lib.hid hcs
                clear hcs
                go_wp2_with fail
                go_roundw
                case rel => exact ⟨j + 1, by omega, by rw [HCN.out, HCS.out]; try go_num, by go_num, trivial⟩
                case measure => simp [intOf]; omega
            · obtain rfl : np = j := by omega
              have hqB3 : decide (((np : Nat) : Int) < np) = false := by simp
              rw [show l.take np = l by rw [← HLL.out]; exact List.take_length]
              have cq := CQ.out
              go_wp2_with fail
              go_roundw
              case rel => exact ⟨q + 1, by omega, by rw [HA.out], by rw [HC.out], by go_num, hb.trans (hbq.mono zb)⟩
              case measure => simp [intOf]; omega
        · obtain rfl : nb = q := by omega
          have hqB2 : decide (((nb : Nat) : Int) < nb) = false := by simp
          obtain ⟨R, hR⟩ : ∃ g, rsS bs ps kf l nb = g := ⟨_, rfl⟩
          obtain ⟨C, hC⟩ : ∃ g, kfS kf l nb = g := ⟨_, rfl⟩
          rw [hR, hC]
          rw [hR] at HST HS1
          rw [hC] at HST2 HS2
          have K1 := Lib.hid (H1.out.below hb H1.out.lt)
          have K2 := Lib.hid (H2.out.below hb H2.out.lt)
          have k1 := K1.out.cell
          have k2 := K2.out.cell
          have f1 := K1.out.frozen
          have f2 := K2.out.frozen
          have lk1 := K1.out.lt
          have lk2 := K2.out.lt
          have HTr := Lib.hid (HT.out.trans (.of_below hb))
          clear hR hC
          by_cases hk0 : k = 0
          · have q0 : ((k : Int) == 0) = true := by rw [beq_iff_eq]; omega
            have N1 := Lib.hid (HS1.out hk0)
            have N2 := Lib.hid (HS2.out hk0)
            clear hk0
            go_upto_region 22 with (fail)
            go_name_world Wn hWn
            obtain ⟨n1, n2, n3⟩ := spans4 K1.out K2.out (by omega) (.int .i64 R) (.int .i64 R) (.int .i64 C) (.int .i64 C)
            rw [hWn] at n1 n2 n3
            have KN1 := Lib.hid n1
            have KN2 := Lib.hid n2
            have HTn := Lib.hid (HTr.out.trans n3)
            have kn1 := KN1.out.cell
            have kn2 := KN2.out.cell
            have fn1 := KN1.out.frozen
            have fn2 := KN2.out.frozen
            have e1 : min R R = R := Int.min_self R
            have e2 : max R R = R := Int.max_self R
            have e3 : min C C = C := Int.min_self C
            have e4 : max C C = C := Int.max_self C
            clear hWn n1 n2 n3 k1 k2 f1 f2
            go_wp2_with fail
            obtain ⟨o1, o2, o3⟩ := spans4 KN1.out KN2.out (by omega) (.int .i64 R) (.int .i64 R) (.int .i64 C) (.int .i64 C)
            go_roundw
            case rel => exact ⟨k + 1, R, R, C, C, by omega, by go_num, Lib.hid o1, Lib.hid o2, N1, N2, Lib.hid (HTn.out.trans o3)⟩
            case measure => simp [intOf]; omega
          · have q0 : ((k : Int) == 0) = false := by rw [beq_eq_false_iff_ne]; omega
            have N1 := HST.out hk0
            have N2 := HST2.out hk0
            obtain ⟨rl2, e1⟩ : ∃ v, min rl R = v := ⟨_, rfl⟩
            obtain ⟨rh2, e2⟩ : ∃ v, max rh R = v := ⟨_, rfl⟩
            obtain ⟨cl2, e3⟩ : ∃ v, min cl C = v := ⟨_, rfl⟩
            obtain ⟨ch2, e4⟩ : ∃ v, max ch C = v := ⟨_, rfl⟩
            rw [e1, e2] at N1
            rw [e3, e4] at N2
            replace N1 := Lib.hid N1
            replace N2 := Lib.hid N2
            clear hk0
            go_wp2_with fail
            obtain ⟨o1, o2, o3⟩ := spans4 K1.out K2.out (by omega) (.int .i64 rl2) (.int .i64 rh2) (.int .i64 cl2) (.int .i64 ch2)
            go_roundw
            case rel => exact ⟨k + 1, rl2, rh2, cl2, ch2, by omega, by go_num, Lib.hid o1, Lib.hid o2, N1, N2, Lib.hid (HTr.out.trans o3)⟩
            case measure => simp [intOf]; omega
    · obtain rfl : k = m := by omega
      have hqB : decide (((k : Nat) : Int) < k) = false := by simp
      have k1 := H1.out.cell
      have k2 := H2.out.cell
      have f1 := H1.out.frozen
      have f2 := H2.out.frozen
      have lk1 := H1.out.lt
      have lk2 := H2.out.lt
      obtain ⟨o1, o2, o3⟩ := spans4 H1.out H2.out (by omega) (.int .i64 rl) (.int .i64 rh) (.int .i64 cl) (.int .i64 ch)
      have d1 := o1.cell 0
      have d2 := o1.cell 1
      have d3 := o2.cell 0
      have d4 := o2.cell 1
      simp at d1 d2 d3 d4
      have HB9 := Lib.hid (o3.below (n := w.heap.size) ⟨by omega, by omega, by omega⟩ hbw hbw.size)
      have HD := Lib.hid (And.intro d1 (And.intro d2 (And.intro d3 d4)))
      clear d1 d2 d3 d4 o1 o2 o3 hbw
      go_wp2_with fail
      go_region
      obtain ⟨d1, d2, d3, d4⟩ := HD.out
      go_wp2_with fail
      exact bodyPost_ret (v := .tuple #[.agg #[.int .i64 rl, .int .i64 rh], .agg #[.int .i64 cl, .int .i64 ch], .int .i64 0]) (by simp [results, Try.results10, go_sem, d1, d2, d3, d4]) rfl ⟨rl, rh, cl, ch, rfl, by rw [HM.out]; exact I1.out, by rw [HM.out]; exact I2.out, HB9.out.drew⟩
end

end Go.Proofs.Ytdhlnlmhdacblaa
