/- Cheapest of the specification (layer 7). -/
import Derived.Test.YthjjakhmbgnnnaaRh7
namespace Go.Proofs.Ythjjakhmbgnnnaa
open Go.RowKit
open Go.Sort (grow)
set_option linter.unusedVariables false

theorem run_min2 {P : Program} {w : World} (ts : Array TypeId) (t : TypeId) (x y : Int) : (Builtin.min_ ts t #[.int .i64 x, .int .i64 y]).run P w = .ok (.int .i64 (min x y)) w := by
  simp [Builtin.min_, Builtin.min2, Int.min_def]
  omega
attribute [local go_sem] run_min2
def uAt (S : List Nat) (k : Nat) : Nat := S.getD k 0
theorem lists_len (n : Nat) (S : List Nat) : (lists n S).length = S.length := by simp [lists]
theorem lists_at {n : Nat} {S : List Nat} {k : Nat} (h : k < S.length) : xAt (lists n S) k = ints (memN (uAt S k) n) := by
  unfold xAt lists uAt
  rw [List.getD_eq_getElem?_getD, List.getElem?_map, List.getElem?_eq_getElem h, List.getD_eq_getElem?_getD, List.getElem?_eq_getElem h]
  rfl
theorem uAt_mem {S : List Nat} {k : Nat} (h : k < S.length) : uAt S k ∈ S := by
  unfold uAt; rw [List.getD_eq_getElem?_getD, List.getElem?_eq_getElem h]; exact List.getElem_mem h
theorem mem_uAt {S : List Nat} {x : Nat} (h : x ∈ S) : ∃ k, k < S.length ∧ uAt S k = x := by
  obtain ⟨k, hk, rfl⟩ := List.getElem_of_mem h
  exact ⟨k, hk, by unfold uAt; rw [List.getD_eq_getElem?_getD, List.getElem?_eq_getElem hk]; rfl⟩
theorem ch_unique {q : Cb} {ls : List Sp} {n : Nat} {link shackle v : Int} (h1 : 0 ≤ link) (h2 : 0 ≤ shackle) (hex : ∃ k, k < (goods q ls n).length ∧ v = prc link shackle n (uAt (goods q ls n) k)) (hall : ∀ k, k < (goods q ls n).length → v ≤ prc link shackle n (uAt (goods q ls n) k)) : chV q ls n link shackle = v ∧ 0 ≤ v := by
  obtain ⟨k, hk, e⟩ := hex
  have hx := mem_goods.1 (uAt_mem hk)
  have hne : fewO q ls n ≠ none := fun e => by
    have := few_none.1 e _ hx.1
    rw [hx.2] at this; cases this
  obtain ⟨⟨y, a1, a2, a3⟩, a4⟩ := ch_some h1 h2 hne
  obtain ⟨j, hj, rfl⟩ := mem_uAt (mem_goods.2 ⟨a1, a2⟩)
  have b1 := hall j hj
  have b2 := a4 _ hx.1 hx.2
  have b3 := prc_nonneg h1 h2 n (uAt (goods q ls n) k)
  omega
theorem go_nil {q : Cb} {ls : List Sp} {n : Nat} (h : (goods q ls n).length = 0) : fewO q ls n = none := by
  refine few_none.2 fun z hz => ?_
  refine Bool.eq_false_iff.2 fun hg => ?_
  have := mem_goods.2 ⟨hz, hg⟩
  rw [List.eq_nil_of_length_eq_zero h] at this
  simp at this
theorem goods_len (q : Cb) (ls : List Sp) (n : Nat) : (goods q ls n).length ≤ 2 ^ n := by
  unfold goods
  have := List.length_filter_le (goodB q ls n) (List.range (2 ^ n))
  simpa using this
set_option maxRecDepth 100000 in
set_option maxHeartbeats 3200000 in
theorem refCheapest_c (A : Option Addr) (n c : Nat) (q : Cb) (link shackle : Int) (ls : List Sp) (w : World) (hn : n ≤ 40) (HL : SpsAt w A n ls) :
    Calls Try.prog 23 #[.agg #[.slice A n c, .int .i64 q.need, .int .i64 q.gap, .int .i64 q.doubt, .int .i64 q.joins, .int .i64 q.least], .int .i64 link, .int .i64 shackle] w
      fun e w' => e = .returned (.tuple #[.int .i64 (chR n ls q link shackle).1, .int .i64 (chR n ls q link shackle).2]) ∧ Below w.heap.size w w' := by
  have hck : ∀ V, Below w.heap.size w V → Calls Try.prog 31 #[.agg #[.slice A n c, .int .i64 q.need, .int .i64 q.gap, .int .i64 q.doubt, .int .i64 q.joins, .int .i64 q.least]] V fun e w' => e = .returned (.int .i64 (erC (ckC n ls q))) ∧ Below V.heap.size V w' := fun V hV => refCheck_c A n c q ls V hn (HL.later hV)
  cases h1 : ckC n ls q
  · rw [h1, show erC false = 70 from rfl] at hck
    rw [show chR n ls q link shackle = (0, 70) by unfold chR; rw [h1]; rfl]
    replace hck := Lib.hid hck
    clear HL h1
    go_enter Try.func23, Try.ntmps23
    go_wp2_with (go_at_call 31; refine (hck.out _ (by (repeat first | with_reducible assumption | with_reducible exact Below.refl _ _ | (with_reducible refine Below.alloc ?_ ?side _; case side => (first | omega | (with_reducible exact Below.size (by assumption)) | (simp; done) | (simp; omega))) | (with_reducible refine Below.setCell ?_ ?side _; case side => (first | omega | (with_reducible exact Below.size (by assumption)) | (simp; done) | (simp; omega))) | with_reducible refine Below.drew ?_ | with_reducible refine below_drewN ?_ _ | (with_reducible refine below_step (by assumption) ?side ?_; case side => (first | omega | (with_reducible exact Below.size (by assumption)) | (simp; done) | (simp; omega)))))).mono ?_; (rintro e w1 ⟨rfl, hb1⟩; obtain ⟨hc1, hf1⟩ := bcell hb1; have zs1 := hb1.size; (try simp at zs1); have n1_0 : w.heap.size < w1.heap.size := (by omega)))
    exact bodyPost_ret (v := .tuple #[.int .i64 0, .int .i64 70]) (by simp [results, Try.results23, go_sem]) rfl ⟨rfl, by (repeat first | with_reducible assumption | with_reducible exact Below.refl _ _ | (with_reducible refine Below.alloc ?_ ?side _; case side => (first | omega | (with_reducible exact Below.size (by assumption)) | (simp; done) | (simp; omega))) | (with_reducible refine Below.setCell ?_ ?side _; case side => (first | omega | (with_reducible exact Below.size (by assumption)) | (simp; done) | (simp; omega))) | with_reducible refine Below.drew ?_ | with_reducible refine below_drewN ?_ _ | (with_reducible refine below_step (by assumption) ?side ?_; case side => (first | omega | (with_reducible exact Below.size (by assumption)) | (simp; done) | (simp; omega))))⟩
  rw [h1, show erC true = 0 from rfl] at hck
  replace hck := Lib.hid hck
  have hp0 : ∀ Z, Calls Try.prog 21 #[.int .i64 link] Z fun e Z' => e = .returned (.bool (wi link 0 999)) ∧ Z = Z' := fun Z => IsPrice_c _ _
  have hp1 : ∀ Z, Calls Try.prog 21 #[.int .i64 shackle] Z fun e Z' => e = .returned (.bool (wi shackle 0 999)) ∧ Z = Z' := fun Z => IsPrice_c _ _
  by_cases hbad : (wi link 0 999 && wi shackle 0 999) = false
  · rw [show chR n ls q link shackle = (0, 1) by unfold chR; rw [h1, hbad]; rfl]
    have hsp : wi link 0 999 = false ∨ wi link 0 999 = true ∧ wi shackle 0 999 = false := by
      cases e : wi link 0 999
      · exact .inl rfl
      · rw [e] at hbad; exact .inr ⟨rfl, hbad⟩
    clear hbad HL h1
    rcases hsp with e | ⟨e, e'⟩
    · rw [e] at hp0
      replace hp0 := Lib.hid hp0
      replace hp1 := Lib.hid hp1
      clear e
      go_enter Try.func23, Try.ntmps23
      go_wp2_with (first | (go_at_call 31; refine (hck.out _ (by (repeat first | with_reducible assumption | with_reducible exact Below.refl _ _ | (with_reducible refine Below.alloc ?_ ?side _; case side => (first | omega | (with_reducible exact Below.size (by assumption)) | (simp; done) | (simp; omega))) | (with_reducible refine Below.setCell ?_ ?side _; case side => (first | omega | (with_reducible exact Below.size (by assumption)) | (simp; done) | (simp; omega))) | with_reducible refine Below.drew ?_ | with_reducible refine below_drewN ?_ _ | (with_reducible refine below_step (by assumption) ?side ?_; case side => (first | omega | (with_reducible exact Below.size (by assumption)) | (simp; done) | (simp; omega)))))).mono ?_; (rintro e w1 ⟨rfl, hb1⟩; obtain ⟨hc1, hf1⟩ := bcell hb1; have zs1 := hb1.size; (try simp at zs1); have n1_0 : w.heap.size < w1.heap.size := (by omega))) | (go_at_call 21; (first | (with_reducible refine (hp0.out _).mono ?_) | (with_reducible refine (hp1.out _).mono ?_)); rintro e w' ⟨rfl, rfl⟩))
      exact bodyPost_ret (v := .tuple #[.int .i64 0, .int .i64 1]) (by simp [results, Try.results23, go_sem]) rfl ⟨rfl, by (repeat first | with_reducible assumption | with_reducible exact Below.refl _ _ | (with_reducible refine Below.alloc ?_ ?side _; case side => (first | omega | (with_reducible exact Below.size (by assumption)) | (simp; done) | (simp; omega))) | (with_reducible refine Below.setCell ?_ ?side _; case side => (first | omega | (with_reducible exact Below.size (by assumption)) | (simp; done) | (simp; omega))) | with_reducible refine Below.drew ?_ | with_reducible refine below_drewN ?_ _ | (with_reducible refine below_step (by assumption) ?side ?_; case side => (first | omega | (with_reducible exact Below.size (by assumption)) | (simp; done) | (simp; omega))))⟩
    · rw [e] at hp0
      rw [e'] at hp1
      replace hp0 := Lib.hid hp0
      replace hp1 := Lib.hid hp1
      clear e e'
      go_enter Try.func23, Try.ntmps23
      go_wp2_with (first | (go_at_call 31; refine (hck.out _ (by (repeat first | with_reducible assumption | with_reducible exact Below.refl _ _ | (with_reducible refine Below.alloc ?_ ?side _; case side => (first | omega | (with_reducible exact Below.size (by assumption)) | (simp; done) | (simp; omega))) | (with_reducible refine Below.setCell ?_ ?side _; case side => (first | omega | (with_reducible exact Below.size (by assumption)) | (simp; done) | (simp; omega))) | with_reducible refine Below.drew ?_ | with_reducible refine below_drewN ?_ _ | (with_reducible refine below_step (by assumption) ?side ?_; case side => (first | omega | (with_reducible exact Below.size (by assumption)) | (simp; done) | (simp; omega)))))).mono ?_; (rintro e w1 ⟨rfl, hb1⟩; obtain ⟨hc1, hf1⟩ := bcell hb1; have zs1 := hb1.size; (try simp at zs1); have n1_0 : w.heap.size < w1.heap.size := (by omega))) | (go_at_call 21; (first | (with_reducible refine (hp0.out _).mono ?_) | (with_reducible refine (hp1.out _).mono ?_)); rintro e w' ⟨rfl, rfl⟩))
      exact bodyPost_ret (v := .tuple #[.int .i64 0, .int .i64 1]) (by simp [results, Try.results23, go_sem]) rfl ⟨rfl, by (repeat first | with_reducible assumption | with_reducible exact Below.refl _ _ | (with_reducible refine Below.alloc ?_ ?side _; case side => (first | omega | (with_reducible exact Below.size (by assumption)) | (simp; done) | (simp; omega))) | (with_reducible refine Below.setCell ?_ ?side _; case side => (first | omega | (with_reducible exact Below.size (by assumption)) | (simp; done) | (simp; omega))) | with_reducible refine Below.drew ?_ | with_reducible refine below_drewN ?_ _ | (with_reducible refine below_step (by assumption) ?side ?_; case side => (first | omega | (with_reducible exact Below.size (by assumption)) | (simp; done) | (simp; omega))))⟩
  obtain ⟨e0, e1⟩ : wi link 0 999 = true ∧ wi shackle 0 999 = true := by
    cases e : wi link 0 999 <;> cases e' : wi shackle 0 999 <;> simp_all
  have hl := wi_true.1 e0
  have hs := wi_true.1 e1
  have hn12 := ck_len h1
  rw [ch_err h1 hl hs]
  rw [e0] at hp0
  rw [e1] at hp1
  replace hp0 := Lib.hid hp0
  replace hp1 := Lib.hid hp1
  have hgd : ∀ V, Below w.heap.size w V → Calls Try.prog 53 #[.agg #[.slice A n c, .int .i64 q.need, .int .i64 q.gap, .int .i64 q.doubt, .int .i64 q.joins, .int .i64 q.least]] V fun e w' => ∃ A1 c1 hs, e = .returned (.slice A1 (goods q ls n).length c1) ∧ SsAt w' A1 (goods q ls n).length hs (lists n (goods q ls n)) ∧ Below V.heap.size V w' := fun V hV => refgood_c A n c q ls V hn12 (HL.later hV)
  have hgl := goods_len q ls n
  have hp2 : 2 ^ n ≤ 2 ^ 12 := Nat.pow_le_pow_right (by omega) hn12
  have hgl2 : (goods q ls n).length ≤ 4096 := by omega
  clear hgl hp2
  by_cases hz : (goods q ls n).length = 0
  · have hfn := go_nil hz
    have hez : erS n ls q = 3 := by
      rcases er_cases h1 with ⟨_, h⟩ | ⟨h, _⟩
      · exact absurd hfn h
      · exact h
    rw [hez]
    rw [hz] at hgd
    replace hgd := Lib.hid hgd
    clear hz hfn hez e0 e1 hbad h1 HL hgl2
    go_enter Try.func23, Try.ntmps23
    go_wp2_with (first | (go_at_call 31; refine (hck.out _ (by (repeat first | with_reducible assumption | with_reducible exact Below.refl _ _ | (with_reducible refine Below.alloc ?_ ?side _; case side => (first | omega | (with_reducible exact Below.size (by assumption)) | (simp; done) | (simp; omega))) | (with_reducible refine Below.setCell ?_ ?side _; case side => (first | omega | (with_reducible exact Below.size (by assumption)) | (simp; done) | (simp; omega))) | with_reducible refine Below.drew ?_ | with_reducible refine below_drewN ?_ _ | (with_reducible refine below_step (by assumption) ?side ?_; case side => (first | omega | (with_reducible exact Below.size (by assumption)) | (simp; done) | (simp; omega)))))).mono ?_; (rintro e w1 ⟨rfl, hb1⟩; obtain ⟨hc1, hf1⟩ := bcell hb1; have zs1 := hb1.size; (try simp at zs1); have n1_0 : w.heap.size < w1.heap.size := (by omega)); (have d0 := (fun j => (hc1 w.heap.size j (by first | omega | (simp; done) | (simp; omega))).trans ((al1_0 rfl).2.1 j))); (have B1 : Below w.heap.size w w1 := (by (repeat first | with_reducible assumption | with_reducible exact Below.refl _ _ | (with_reducible refine Below.alloc ?_ ?side _; case side => (first | omega | (with_reducible exact Below.size (by assumption)) | (simp; done) | (simp; omega))) | (with_reducible refine Below.setCell ?_ ?side _; case side => (first | omega | (with_reducible exact Below.size (by assumption)) | (simp; done) | (simp; omega))) | with_reducible refine Below.drew ?_ | with_reducible refine below_drewN ?_ _ | (with_reducible refine below_step (by assumption) ?side ?_; case side => (first | omega | (with_reducible exact Below.size (by assumption)) | (simp; done) | (simp; omega)))))); clear hc1 hf1) | (go_at_call 21; (first | (with_reducible refine (hp0.out _).mono ?_) | (with_reducible refine (hp1.out _).mono ?_)); rintro e w' ⟨rfl, rfl⟩))
    refine (hgd.out _ B1).mono ?_
    rintro e w2 ⟨A1, c1, hds, rfl, -, hb2⟩
    go_wp2
    exact bodyPost_ret (v := .tuple #[.int .i64 0, .int .i64 3]) (by simp [results, Try.results23, go_sem]) rfl ⟨rfl, by (repeat first | with_reducible assumption | with_reducible exact Below.refl _ _ | (with_reducible refine Below.alloc ?_ ?side _; case side => (first | omega | (with_reducible exact Below.size (by assumption)) | (simp; done) | (simp; omega))) | (with_reducible refine Below.setCell ?_ ?side _; case side => (first | omega | (with_reducible exact Below.size (by assumption)) | (simp; done) | (simp; omega))) | with_reducible refine Below.drew ?_ | with_reducible refine below_drewN ?_ _ | (with_reducible refine below_step (by assumption) ?side ?_; case side => (first | omega | (with_reducible exact Below.size (by assumption)) | (simp; done) | (simp; omega))))⟩
  · obtain ⟨S, hS⟩ : ∃ S, goods q ls n = S := ⟨_, rfl⟩
    have hpr : ∀ (k : Nat) (h : Hd) V, k < S.length → IntsAt V h.A h.n (xAt (lists n S) k) → Calls Try.prog 42 #[.agg #[.slice A n c, .int .i64 q.need, .int .i64 q.gap, .int .i64 q.doubt, .int .i64 q.joins, .int .i64 q.least], .slice h.A h.n h.c, .int .i64 link, .int .i64 shackle] V fun e V' => e = .returned (.int .i64 (prc link shackle n (uAt S k))) ∧ Below V.heap.size V V' := fun k h V hk hI => by
      rw [lists_at hk] at hI
      have hlen := hI.1
      rw [ints_len] at hlen
      refine Price_c A h.A n c h.n h.c (uAt S k) q _ link shackle V hn12 hlen.symm hI ?_ hl.1 hl.2 hs.1 hs.2
      rw [← hlen]
      exact bits_mem _ n
    have hun := fun v => ch_unique (q := q) (ls := ls) (n := n) (v := v) hl.1 hs.1
    have hez : erS n ls q = 0 := by
      rcases er_cases h1 with ⟨h, _⟩ | ⟨_, h⟩
      · exact h
      · refine absurd ?_ hz
        have := few_none.1 h
        refine Nat.eq_zero_of_not_pos fun hp => ?_
        obtain ⟨a1, a2⟩ := mem_goods.1 (uAt_mem hp)
        rw [this _ a1] at a2; cases a2
    rw [hez]
    rw [hS] at hgd hz hgl2 hun
    obtain ⟨m, hm⟩ : ∃ m, S.length = m := ⟨_, rfl⟩
    rw [hm] at hgd hz hgl2 hun hpr
    have hbd : ∀ k, 0 ≤ prc link shackle n (uAt S k) ∧ prc link shackle n (uAt S k) ≤ 100000 := fun k => by
      have := prc_bd hl.1 hl.2 hs.1 hs.2 hn12 (uAt S k)
      unfold prc; omega
    obtain ⟨R, hR⟩ : ∃ R, chV q ls n link shackle = R := ⟨_, rfl⟩
    rw [hR] at hun
    rw [show (bif (0 : Int) == 0 then (chV q ls n link shackle, (0 : Int)) else (0, 3)) = (R, 0) by rw [hR]; rfl]
    replace hgd := Lib.hid hgd
    replace hpr := Lib.hid hpr
    replace hun := Lib.hid hun
    have hm1 : 1 ≤ m := by omega
    have HBD := Lib.hid hbd
    clear hz hez e0 e1 hbad h1 HL hS hm hl hs hbd hR
    go_enter Try.func23, Try.ntmps23
    go_wp2_with (first | (go_at_call 31; refine (hck.out _ (by (repeat first | with_reducible assumption | with_reducible exact Below.refl _ _ | (with_reducible refine Below.alloc ?_ ?side _; case side => (first | omega | (with_reducible exact Below.size (by assumption)) | (simp; done) | (simp; omega))) | (with_reducible refine Below.setCell ?_ ?side _; case side => (first | omega | (with_reducible exact Below.size (by assumption)) | (simp; done) | (simp; omega))) | with_reducible refine Below.drew ?_ | with_reducible refine below_drewN ?_ _ | (with_reducible refine below_step (by assumption) ?side ?_; case side => (first | omega | (with_reducible exact Below.size (by assumption)) | (simp; done) | (simp; omega)))))).mono ?_; (rintro e w1 ⟨rfl, hb1⟩; obtain ⟨hc1, hf1⟩ := bcell hb1; have zs1 := hb1.size; (try simp at zs1); have n1_0 : w.heap.size < w1.heap.size := (by omega)); (have d0 := (fun j => (hc1 w.heap.size j (by first | omega | (simp; done) | (simp; omega))).trans ((al1_0 rfl).2.1 j))); (have B1 : Below w.heap.size w w1 := (by (repeat first | with_reducible assumption | with_reducible exact Below.refl _ _ | (with_reducible refine Below.alloc ?_ ?side _; case side => (first | omega | (with_reducible exact Below.size (by assumption)) | (simp; done) | (simp; omega))) | (with_reducible refine Below.setCell ?_ ?side _; case side => (first | omega | (with_reducible exact Below.size (by assumption)) | (simp; done) | (simp; omega))) | with_reducible refine Below.drew ?_ | with_reducible refine below_drewN ?_ _ | (with_reducible refine below_step (by assumption) ?side ?_; case side => (first | omega | (with_reducible exact Below.size (by assumption)) | (simp; done) | (simp; omega)))))); clear hc1 hf1) | (go_at_call 21; (first | (with_reducible refine (hp0.out _).mono ?_) | (with_reducible refine (hp1.out _).mono ?_)); rintro e w' ⟨rfl, rfl⟩))
    refine (hgd.out _ B1).mono ?_
    rintro e w2 ⟨A1, c1, hds, rfl, hss, hb2⟩
    have HSS := Lib.hid hss
    have d2 := fun j => (hb2.cell (p := ⟨w.heap.size, j, none⟩) n1_0).trans (d0 j)
    have B2 : Below w.heap.size w w2 := by (repeat first | with_reducible assumption | with_reducible exact Below.refl _ _ | (with_reducible refine Below.alloc ?_ ?side _; case side => (first | omega | (with_reducible exact Below.size (by assumption)) | (simp; done) | (simp; omega))) | (with_reducible refine Below.setCell ?_ ?side _; case side => (first | omega | (with_reducible exact Below.size (by assumption)) | (simp; done) | (simp; omega))) | with_reducible refine Below.drew ?_ | with_reducible refine below_drewN ?_ _ | (with_reducible refine below_step (by assumption) ?side ?_; case side => (first | omega | (with_reducible exact Below.size (by assumption)) | (simp; done) | (simp; omega))))
    have n2 : w.heap.size < w2.heap.size := by have := hb2.size; omega
    have hmB : ((m : Int) == 0) = false := by simp; omega
    obtain ⟨b0, o0, rfl, hb0, x0, I0⟩ := HSS.out.get (show 0 < m by omega)
    replace x0 : w2.cell? ⟨b0, o0, none⟩ = _ := x0
    obtain ⟨h0, hh0⟩ : ∃ h, hAt hds 0 = h := ⟨_, rfl⟩
    rw [hh0] at x0 I0
    have HI0 := Lib.hid I0
    clear hss hb2 d0 B1 I0 hh0
    have hp00 : ∀ V, Below w2.heap.size w2 V → Calls Try.prog 42 #[.agg #[.slice A n c, .int .i64 q.need, .int .i64 q.gap, .int .i64 q.doubt, .int .i64 q.joins, .int .i64 q.least], .slice h0.A h0.n h0.c, .int .i64 link, .int .i64 shackle] V fun e V' => e = .returned (.int .i64 (prc link shackle n (uAt S 0))) ∧ Below V.heap.size V V' := fun V hV => hpr.out 0 h0 V (by omega) (HI0.out.later hV)
    obtain ⟨v0, hv0⟩ : ∃ v, prc link shackle n (uAt S 0) = v := ⟨_, rfl⟩
    rw [hv0] at hp00
    have HV0 := Lib.hid hv0
    replace hp00 := Lib.hid hp00
    clear hv0 HI0
    go_wp2_with fail
    have hcq := fun p : Regrown => (bcell (below_regrown w2 p.d p.os)).1
    refine wp_region_quiet_below (by kernel_rfl) (by kernel_rfl) ?_
    repeat (go_big_quiet_step (((go_at_call 42; exact Calls.regrown_of (hp00.out _ (below_regrown _ _ _))))))
    refine wpQuiet_nil ?_
    intro w3 hq
    obtain ⟨pq, hq⟩ := hq
    have hb3 : Below w2.heap.size w2 w3 := by rw [hq]; exact below_regrown _ _ _
    clear hq hcq pq
    obtain ⟨hc3, hf3⟩ := bcell hb3
    have z3 := hb3.size
    have b3 := Lib.hid hb3
    have D2 := Lib.hid d2
    clear hb3 hc3 hf3 x0 d2 hp00
    go_wp2_with fail
    go_loopw [10, 11] (fun a i (wr : World) => ∃ (k : Nat) (v : Int), k ≤ m ∧ i = .int .i64 k ∧ a = .int .i64 v ∧ Hid ((∃ j, j < m ∧ v = prc link shackle n (uAt S j)) ∧ ∀ j, j < k → v ≤ prc link shackle n (uAt S j)) ∧ Below w2.heap.size w2 wr) (fun _ i _ => m - (intOf i).toNat)
    case atStart => exact ⟨0, v0, by omega, rfl, rfl, Lib.hid ⟨⟨0, by omega, HV0.out.symm⟩, fun j hj => absurd hj (by omega)⟩, b3.out⟩
    case round =>
      obtain ⟨k, v, hk, rfl, rfl, HV, hb⟩ := hrel
      have zb := hb.size
      have dd := fun j => (hb.cell (p := ⟨w.heap.size, j, none⟩) n2).trans (D2.out j)
      have nn : w.heap.size < wr.heap.size := by omega
      by_cases hkn : k < m
      · have hknB : decide ((k : Int) < m) = true := by simp; omega
        obtain ⟨b1, o1, e1, hb1, x1, I1⟩ := (HSS.out.later hb).get hkn
        obtain ⟨rfl, rfl⟩ : b0 = b1 ∧ o0 = o1 := by simpa using e1
        obtain ⟨h1, hh1⟩ : ∃ h, hAt hds k = h := ⟨_, rfl⟩
        rw [hh1] at x1 I1
        have hpk : ∀ V, Below wr.heap.size wr V → Calls Try.prog 42 #[.agg #[.slice A n c, .int .i64 q.need, .int .i64 q.gap, .int .i64 q.doubt, .int .i64 q.joins, .int .i64 q.least], .slice h1.A h1.n h1.c, .int .i64 link, .int .i64 shackle] V fun e V' => e = .returned (.int .i64 (prc link shackle n (uAt S k))) ∧ Below V.heap.size V V' := fun V hV => hpr.out k h1 V hkn (I1.later hV)
        have HN : Hid ((∃ j, j < m ∧ min v (prc link shackle n (uAt S k)) = prc link shackle n (uAt S j)) ∧ ∀ j, j < k + 1 → min v (prc link shackle n (uAt S k)) ≤ prc link shackle n (uAt S j)) := by
          obtain ⟨⟨j0, hj0, ej0⟩, hall⟩ := HV.out
          refine ⟨?_, fun j hj => ?_⟩
          · rcases (by omega : min v (prc link shackle n (uAt S k)) = v ∨ min v (prc link shackle n (uAt S k)) = prc link shackle n (uAt S k)) with e | e
            · exact ⟨j0, hj0, e.trans ej0⟩
            · exact ⟨k, hkn, e⟩
          · rcases Nat.lt_succ_iff_lt_or_eq.1 hj with h' | rfl
            · have := hall j h'; omega
            · omega
        obtain ⟨pk, hpk2⟩ : ∃ v, prc link shackle n (uAt S k) = v := ⟨_, rfl⟩
        rw [hpk2] at hpk HN
        replace hpk := Lib.hid hpk
        clear hpk2 I1 e1 hh1
        go_wp2_with fail
        have hcq := fun p : Regrown => (bcell (below_regrown wr p.d p.os)).1
        refine wp_region_quiet_below (by kernel_rfl) (by kernel_rfl) ?_
        repeat (go_big_quiet_step (((go_at_call 42; exact Calls.regrown_of (hpk.out _ (below_regrown _ _ _))))))
        refine wpQuiet_nil ?_
        intro wq hq
        obtain ⟨pq, hq⟩ := hq
        have hbq : Below wr.heap.size wr wq := by rw [hq]; exact below_regrown _ _ _
        clear hq hcq pq
        obtain ⟨hcq, hfq⟩ := bcell hbq
        have zq := hbq.size
        go_wp2
        go_roundw
        case rel => exact ⟨k + 1, _, by omega, by go_num, rfl, HN, hb.trans (hbq.mono zb)⟩
        case measure => simp [intOf]; omega
      · obtain rfl : k = m := by omega
        have hknB : decide (((k : Nat) : Int) < k) = false := by simp
        have HF := Lib.hid (hun.out v HV.out.1 HV.out.2)
        go_wp2_with fail
        exact bodyPost_ret (v := .tuple #[.int .i64 v, .int .i64 0]) (by simp [results, Try.results23, go_sem]) rfl ⟨by rw [HF.out.1], by (repeat first | with_reducible assumption | with_reducible exact Below.refl _ _ | (with_reducible refine Below.alloc ?_ ?side _; case side => (first | omega | (with_reducible exact Below.size (by assumption)) | (simp; done) | (simp; omega))) | (with_reducible refine Below.setCell ?_ ?side _; case side => (first | omega | (with_reducible exact Below.size (by assumption)) | (simp; done) | (simp; omega))) | with_reducible refine Below.drew ?_ | with_reducible refine below_drewN ?_ _ | (with_reducible refine below_step (by assumption) ?side ?_; case side => (first | omega | (with_reducible exact Below.size (by assumption)) | (simp; done) | (simp; omega))))⟩

end Go.Proofs.Ythjjakhmbgnnnaa
