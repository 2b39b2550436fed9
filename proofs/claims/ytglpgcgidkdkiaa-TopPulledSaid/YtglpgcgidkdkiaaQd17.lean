/- Strong of repairs (layer 7). -/
import Derived.Test.YtglpgcgidkdkiaaQd06
import Derived.Test.YtglpgcgidkdkiaaQd16
namespace Go.Proofs.Ytglpgcgidkdkiaa
open Go.RowKit
open Go.Sort (grow)
set_option linter.unusedVariables false
set_option linter.unusedSimpArgs false

attribute [local go_sem] Oper.semAt_some

theorem ck_at {n : Nat} {ls : List Sp} {q : Cb} (hl : ls.length = n) (h : ckC n ls q = true) {v : Int} (hv : v ∈ cand ls) : ckC n ls (q.at_ v) = true := by
  simp only [ckC, Bool.and_eq_true] at h ⊢
  obtain ⟨⟨h1, h2, h3⟩, h4⟩ := h
  refine ⟨⟨h1, wi_true_q7.2 ?_, h3⟩, h4⟩
  show 0 ≤ v ∧ v ≤ 9999
  rcases cand_mem.1 hv with rfl | ⟨i, hi, hvi⟩
  · omega
  · have := allN_iff.1 h4 i (by omega)
    simp only [ckSp7, Bool.not_eq_true', Bool.or_eq_false_iff, Bool.not_eq_false', decide_eq_false_iff_not] at this
    have h5 := wi_true_q7.1 this.1
    have h6 := this.2
    rcases hvi with rfl | rfl <;> omega
def cndK (ls : List Sp) (k : Nat) : List Int := 9999 :: (ls.take k).flatMap fun s => [s.lo, s.hi]
theorem cndK_all {ls : List Sp} {n : Nat} (hl : ls.length = n) : cndK ls n = cand ls := by unfold cndK cand; rw [← hl, List.take_length]
theorem cndK_succ {ls : List Sp} {k : Nat} (hk : k < ls.length) : cndK ls (k + 1) = cndK ls k ++ [(spAt ls k).lo, (spAt ls k).hi] := by
  unfold cndK
  rw [List.take_add_one, List.getElem?_eq_getElem hk, List.flatMap_append]
  have : spAt ls k = ls[k] := by simp [spAt, List.getD_eq_getElem?_getD, hk]
  rw [this]; simp
theorem cndK_len {ls : List Sp} {k : Nat} (hk : k ≤ ls.length) : (cndK ls k).length = 2 * k + 1 := by
  induction k with
  | zero => rfl
  | succ k ih => rw [cndK_succ (by omega), List.length_append, ih (by omega)]; simp; omega
theorem okB_run {n : Nat} {ls : List Sp} {q : Cb} {cuts v : Int} (h : ckC n ls (q.at_ v) = true) : okB_q7 q ls n cuts v = (erS_q7 n ls (q.at_ v) == 0 && decide (((plC n ls (q.at_ v)).length : Int) ≤ cuts)) := by
  unfold okB_q7 fewO erS_q7 plC
  rw [h]
  cases shL (q.at_ v) ls n with
  | nil => rfl
  | cons y r => simp [cntN]
theorem Fr.tame {bo base B : Nat} {w W W' : World} (h : Fr bo base w W) (hB : base ≤ B) (ht : Tame B W W') : Fr bo base w W' :=
  ⟨ht.os.trans h.os, ht.tape.trans h.tape, ht.output.trans h.output, Nat.le_trans h.size ht.size, fun g h1 h2 h3 => by
    rcases ht.same g (Nat.lt_of_lt_of_le h1 h.size) with h4 | ⟨h4, _⟩
    · exact h4.trans (h.same g h1 h2 h3)
    · omega⟩
theorem rev_at {zs : List Int} {m j i : Nat} (hl : zs.length = m) (h : (List.range m).reverse[j]? = some i) : j < m ∧ i < m ∧ zs.reverse[j]? = some (iAt zs i) := by
  have hj : j < m := by have := (List.getElem?_eq_some_iff.1 h).1; simpa using this
  rw [List.getElem?_reverse (by simpa using hj), List.length_range, List.getElem?_range (by omega)] at h
  obtain rfl : m - 1 - j = i := by simpa using h
  refine ⟨hj, by omega, ?_⟩
  rw [List.getElem?_reverse (by omega), hl]
  simp [iAt, List.getD_eq_getElem?_getD, List.getElem?_eq_getElem (show m - 1 - j < zs.length by omega)]
theorem str_some {q : Cb} {ls zs : List Sp} {n : Nat} {cuts v : Int} {l : List Int} {j : Nat} (hj : l[j]? = some v) (ho : okB_q7 q ls n cuts v = true) (hm : ∀ i, i < j → ∀ u, l[i]? = some u → okB_q7 q ls n cuts u = false) : l.find? (okB_q7 q ls n cuts) = some v := by
  rw [List.find?_eq_some_iff_getElem]
  obtain ⟨h1, h2⟩ := List.getElem?_eq_some_iff.1 hj
  exact ⟨ho, j, h1, h2, fun i hi => by rw [hm i hi _ (List.getElem?_eq_getElem (by omega))]; rfl⟩
theorem str_none {q : Cb} {ls : List Sp} {n : Nat} {cuts : Int} {l : List Int} (hm : ∀ i, i < l.length → ∀ u, l[i]? = some u → okB_q7 q ls n cuts u = false) : l.find? (okB_q7 q ls n cuts) = none := by
  rw [List.find?_eq_none]
  intro x hx
  obtain ⟨i, hi, e⟩ := List.getElem_of_mem hx
  rw [hm i hi x (by rw [List.getElem?_eq_getElem hi, e])]
  simp
theorem ints_fr {bo base n : Nat} {b o : Nat} {xs : List Int} {W W' : World} (h : IntsAt W (some ⟨b, o, none⟩) n xs) (hf : Fr bo base W W') (h1 : b ≠ bo) (h2 : b < base) : IntsAt W' (some ⟨b, o, none⟩) n xs := by
  refine ⟨h.1, fun hn => ?_⟩
  obtain ⟨b', o', e, hb, hc⟩ := h.2 hn
  obtain ⟨rfl, rfl⟩ : b = b' ∧ o = o' := by simpa using e
  exact ⟨b, o, rfl, Nat.lt_of_lt_of_le hb hf.size, fun k hk j u hu => (hf.cell (p := ⟨b, o + k * 1 + j, none⟩) hb h1 h2).trans (hc k hk j u hu)⟩
/-- what Strong hands back: a strength, an error -/
def stO2 : Option Int → Int × Int
  | some b => (b, 0)
  | none => (0, 3)
def stR (n : Nat) (ls : List Sp) (q : Cb) (cuts : Int) : Int × Int := bif ckC n ls q then (bif wi_q7 cuts 0 12 then stO2 (strO q ls n cuts) else (0, 1)) else (0, 70)
theorem backward_c (A : Option Addr) (n c : Nat) (w : World) :
    Calls Try.prog 65 #[.slice A n c] w fun e w' => e = .returned (.func (.func 91) #[] #[.pointer (some ⟨w.heap.size, 0, none⟩)]) ∧ w' = w.alloc (.cells #[.slice A n c] 33) := by
  go_enter Try.func65, Try.ntmps65
  go_wp2
  go_ret
  exact ⟨rfl, rfl⟩
set_option maxRecDepth 100000 in
set_option maxHeartbeats 3200000 in
theorem strong_c (A : Option Addr) (n c : Nat) (q : Cb) (cuts : Int) (ls : List Sp) (w : World) (hn : n ≤ 40) (hq : CbOk q) (HL : SpsAt w A n ls) :
    Calls Try.prog 42 #[.agg #[.slice A n c, .int .i64 q.need, .int .i64 q.gap, .int .i64 q.doubt, .int .i64 q.joins, .int .i64 q.least], .int .i64 cuts] w
      fun e w' => e = .returned (.tuple #[.int .i64 (stR n ls q cuts).1, .int .i64 (stR n ls q cuts).2]) ∧ Below w.heap.size w w' := by
  have HLI := Lib.hid HL
  clear HL
  have hcc : ∀ W, Below w.heap.size w W → Calls Try.prog 62 #[.agg #[.slice A n c, .int .i64 q.need, .int .i64 q.gap, .int .i64 q.doubt, .int .i64 q.joins, .int .i64 q.least]] W fun e w' => e = .returned (.int .i64 (erC (ckC n ls q))) ∧ Below W.heap.size W w' := fun W hW =>
    check_c_q7 A n c q ls W hn hq (HLI.out.later hW)
  have hwc : ∀ W, Calls Try.prog 63 #[.int .i64 cuts, .int .i64 0, .int .i64 12] W fun e W' => e = .returned (.bool (wi_q7 cuts 0 12)) ∧ W = W' := fun W => within_c _ _ _ _
  cases hck : ckC n ls q
  · have e0 : erC (ckC n ls q) = 70 := by rw [hck]; rfl
    have e1 : stR n ls q cuts = (0, 70) := by simp [stR, hck]
    rw [e1]
    rw [e0] at hcc
    replace hcc := Lib.hid hcc
    clear hck e0 e1
    refine (callsIn_wide (n := 6)).1 (callsIn_of_wp_marks Try.func42 rfl trivial ?_ rfl)
    simp only [Try.ntmps42, List.size_toArray, List.length_cons, List.length_nil, Nat.reduceAdd, Nat.reduceSub, Array.replicate_succ, Array.replicate_zero, List.push_toArray, List.append_toArray, List.nil_append, List.cons_append]
    gi_wp2_with (refine ⟨trivial, ?_⟩; gi_at_call 62; refine callsIn_wide.2 ((hcc.out _ (by (repeat first | with_reducible assumption | with_reducible exact Below.refl _ _ | refine below_drewN ?_ _ | refine Below.drew ?_ | refine Below.alloc ?_ (by first | omega | (with_reducible exact Below.size (by assumption)) | (simp; done) | (simp; omega)) _ | refine Below.setCell ?_ (by first | omega | (with_reducible exact Below.size (by assumption)) | (simp; done) | (simp; omega)) _ | refine below_step (by assumption) (by first | omega | (with_reducible exact Below.size (by assumption)) | (simp; done) | (simp; omega)) ?_))).mono ?_); (rintro e w1 ⟨rfl, hb1⟩; obtain ⟨hc1, hf1⟩ := bcell hb1; have zs1 := hb1.size; (try simp at zs1); have n1_0 : w.heap.size < w1.heap.size := (by omega); have n1_1 : w.heap.size + 1 < w1.heap.size := (by omega); have n1_2 : w.heap.size + 2 < w1.heap.size := (by omega); have n1_3 : w.heap.size + 3 < w1.heap.size := (by omega)))
    have p1 : w1.cell? ⟨w.heap.size + 1 + 1, 0, none⟩ = some (.int .i64 0) := (hc1 _ 0 (by first | omega | (simp; done) | (simp; omega))).trans ((al4_2 rfl).2.1 0)
    have p2 : w1.cell? ⟨w.heap.size + 1 + 1 + 1, 0, none⟩ = some (.int .i64 0) := (hc1 _ 0 (by first | omega | (simp; done) | (simp; omega))).trans ((al4_3 rfl).2.1 0)
    refine leave_marks (B := w.heap.size) (v := .tuple #[.int .i64 0, .int .i64 70]) [] _ (.nil _) (by simp) (fun W' ht => ?_) (fun W' ht => ⟨rfl, ht.below (Nat.le_refl _) (by simp; omega) (by (repeat first | with_reducible assumption | with_reducible exact Below.refl _ _ | refine below_drewN ?_ _ | refine Below.drew ?_ | refine Below.alloc ?_ (by first | omega | (with_reducible exact Below.size (by assumption)) | (simp; done) | (simp; omega)) _ | refine Below.setCell ?_ (by first | omega | (with_reducible exact Below.size (by assumption)) | (simp; done) | (simp; omega)) _ | refine below_step (by assumption) (by first | omega | (with_reducible exact Below.size (by assumption)) | (simp; done) | (simp; omega)) ?_))⟩)
    obtain ⟨c1, c2⟩ := two_cells (u := .int .i64 0) (v := .int .i64 70) (by simp) p1 p2
    have d1 := ht.cell c1
    have d2 := ht.cell c2
    simp [results, Try.results42, go_sem, d1, d2]
  have e0 : erC (ckC n ls q) = 0 := by rw [hck]; rfl
  rw [e0] at hcc
  replace hcc := Lib.hid hcc
  cases hcu : wi_q7 cuts 0 12
  · have e1 : stR n ls q cuts = (0, 1) := by simp [stR, hck, hcu]
    rw [e1]
    rw [hcu] at hwc
    replace hwc := Lib.hid hwc
    clear hck e0 e1 hcu
    refine (callsIn_wide (n := 6)).1 (callsIn_of_wp_marks Try.func42 rfl trivial ?_ rfl)
    simp only [Try.ntmps42, List.size_toArray, List.length_cons, List.length_nil, Nat.reduceAdd, Nat.reduceSub, Array.replicate_succ, Array.replicate_zero, List.push_toArray, List.append_toArray, List.nil_append, List.cons_append]
    gi_wp2_with (refine ⟨trivial, ?_⟩; gi_at_call 62; refine callsIn_wide.2 ((hcc.out _ (by (repeat first | with_reducible assumption | with_reducible exact Below.refl _ _ | refine below_drewN ?_ _ | refine Below.drew ?_ | refine Below.alloc ?_ (by first | omega | (with_reducible exact Below.size (by assumption)) | (simp; done) | (simp; omega)) _ | refine Below.setCell ?_ (by first | omega | (with_reducible exact Below.size (by assumption)) | (simp; done) | (simp; omega)) _ | refine below_step (by assumption) (by first | omega | (with_reducible exact Below.size (by assumption)) | (simp; done) | (simp; omega)) ?_))).mono ?_); (rintro e w1 ⟨rfl, hb1⟩; obtain ⟨hc1, hf1⟩ := bcell hb1; have zs1 := hb1.size; (try simp at zs1); have n1_0 : w.heap.size < w1.heap.size := (by omega); have n1_1 : w.heap.size + 1 < w1.heap.size := (by omega); have n1_2 : w.heap.size + 2 < w1.heap.size := (by omega); have n1_3 : w.heap.size + 3 < w1.heap.size := (by omega)))
    have p0 := fun j => (hc1 (w.heap.size + 1) j (by first | omega | (simp; done) | (simp; omega))).trans ((al4_1 rfl).2.1 j)
    have p1 : w1.cell? ⟨w.heap.size + 1 + 1, 0, none⟩ = some (.int .i64 0) := (hc1 _ 0 (by first | omega | (simp; done) | (simp; omega))).trans ((al4_2 rfl).2.1 0)
    have p2 : w1.cell? ⟨w.heap.size + 1 + 1 + 1, 0, none⟩ = some (.int .i64 0) := (hc1 _ 0 (by first | omega | (simp; done) | (simp; omega))).trans ((al4_3 rfl).2.1 0)
    have g1 := fun i => (hf1 (w.heap.size + 1 + 1) i (by first | omega | (simp; done) | (simp; omega))).trans ((al4_2 rfl).2.2 i)
    have g2 := fun i => (hf1 (w.heap.size + 1 + 1 + 1) i (by first | omega | (simp; done) | (simp; omega))).trans ((al4_3 rfl).2.2 i)
    have B1 : Below w.heap.size w w1 := by (repeat first | with_reducible assumption | with_reducible exact Below.refl _ _ | refine below_drewN ?_ _ | refine Below.drew ?_ | refine Below.alloc ?_ (by first | omega | (with_reducible exact Below.size (by assumption)) | (simp; done) | (simp; omega)) _ | refine Below.setCell ?_ (by first | omega | (with_reducible exact Below.size (by assumption)) | (simp; done) | (simp; omega)) _ | refine below_step (by assumption) (by first | omega | (with_reducible exact Below.size (by assumption)) | (simp; done) | (simp; omega)) ?_)
    clear hc1 hf1 hb1
    gi_wp2_with (refine ⟨trivial, ?_⟩; gi_at_call 63; refine callsIn_wide.2 ((hwc.out _).mono ?_); rintro e w' ⟨rfl, rfl⟩)
    refine leave_marks (B := w.heap.size) (v := .tuple #[.int .i64 0, .int .i64 1]) [] _ (.nil _) (by simp) (fun W' ht => ?_) (fun W' ht => ⟨rfl, ht.below (Nat.le_refl _) (by simp; omega) (by (repeat first | with_reducible assumption | with_reducible exact Below.refl _ _ | refine below_drewN ?_ _ | refine Below.drew ?_ | refine Below.alloc ?_ (by first | omega | (with_reducible exact Below.size (by assumption)) | (simp; done) | (simp; omega)) _ | refine Below.setCell ?_ (by first | omega | (with_reducible exact Below.size (by assumption)) | (simp; done) | (simp; omega)) _ | refine below_step (by assumption) (by first | omega | (with_reducible exact Below.size (by assumption)) | (simp; done) | (simp; omega)) ?_))⟩)
    obtain ⟨c1, c2⟩ := two_cells (u := .int .i64 0) (v := .int .i64 1) (by simp) p1 p2
    have d1 := ht.cell c1
    have d2 := ht.cell c2
    simp [results, Try.results42, go_sem, d1, d2]
  have e1 : stR n ls q cuts = stO2 (strO q ls n cuts) := by simp [stR, hck, hcu]
  rw [e1]
  rw [hcu] at hwc
  replace hwc := Lib.hid hwc
  have hn12 := ck_len hck
  have HCK := Lib.hid hck
  clear hck e0 e1 hcu
  refine (callsIn_wide (n := 6)).1 (callsIn_of_wp_marks Try.func42 rfl trivial ?_ rfl)
  simp only [Try.ntmps42, List.size_toArray, List.length_cons, List.length_nil, Nat.reduceAdd, Nat.reduceSub, Array.replicate_succ, Array.replicate_zero, List.push_toArray, List.append_toArray, List.nil_append, List.cons_append]
  gi_wp2_with (refine ⟨trivial, ?_⟩; gi_at_call 62; refine callsIn_wide.2 ((hcc.out _ (by (repeat first | with_reducible assumption | with_reducible exact Below.refl _ _ | refine below_drewN ?_ _ | refine Below.drew ?_ | refine Below.alloc ?_ (by first | omega | (with_reducible exact Below.size (by assumption)) | (simp; done) | (simp; omega)) _ | refine Below.setCell ?_ (by first | omega | (with_reducible exact Below.size (by assumption)) | (simp; done) | (simp; omega)) _ | refine below_step (by assumption) (by first | omega | (with_reducible exact Below.size (by assumption)) | (simp; done) | (simp; omega)) ?_))).mono ?_); (rintro e w1 ⟨rfl, hb1⟩; obtain ⟨hc1, hf1⟩ := bcell hb1; have zs1 := hb1.size; (try simp at zs1); have n1_0 : w.heap.size < w1.heap.size := (by omega); have n1_1 : w.heap.size + 1 < w1.heap.size := (by omega); have n1_2 : w.heap.size + 2 < w1.heap.size := (by omega); have n1_3 : w.heap.size + 3 < w1.heap.size := (by omega)))
  have B1 : Below w.heap.size w w1 := by (repeat first | with_reducible assumption | with_reducible exact Below.refl _ _ | refine below_drewN ?_ _ | refine Below.drew ?_ | refine Below.alloc ?_ (by first | omega | (with_reducible exact Below.size (by assumption)) | (simp; done) | (simp; omega)) _ | refine Below.setCell ?_ (by first | omega | (with_reducible exact Below.size (by assumption)) | (simp; done) | (simp; omega)) _ | refine below_step (by assumption) (by first | omega | (with_reducible exact Below.size (by assumption)) | (simp; done) | (simp; omega)) ?_)
  have z1 := B1.size
  have D0 : Hid (Blk w1 w.heap.size 48 #[.slice A n c, .int .i64 q.need, .int .i64 q.gap, .int .i64 q.doubt, .int .i64 q.joins, .int .i64 q.least]) := (((((Blk.new w _ _).alloc _).alloc _).alloc _)).below hb1 (by simp; omega)
  have d0 := D0.out.cell
  have d1 := fun j => (hc1 (w.heap.size + 1) j (by first | omega | (simp; done) | (simp; omega))).trans ((al4_1 rfl).2.1 j)
  have s1 := fun j => (hc1 (w.heap.size + 1 + 1) j (by first | omega | (simp; done) | (simp; omega))).trans ((al4_2 rfl).2.1 j)
  have s2 := fun j => (hc1 (w.heap.size + 1 + 1 + 1) j (by first | omega | (simp; done) | (simp; omega))).trans ((al4_3 rfl).2.1 j)
  have g1 := fun i => (hf1 (w.heap.size + 1 + 1) i (by first | omega | (simp; done) | (simp; omega))).trans ((al4_2 rfl).2.2 i)
  have g2 := fun i => (hf1 (w.heap.size + 1 + 1 + 1) i (by first | omega | (simp; done) | (simp; omega))).trans ((al4_3 rfl).2.2 i)
  clear hc1 hf1 hb1
  gi_wp2_with (refine ⟨trivial, ?_⟩; gi_at_call 63; refine callsIn_wide.2 ((hwc.out _).mono ?_); rintro e w' ⟨rfl, rfl⟩)
  have own0 : Hid ((w1.alloc (.cells #[.int .i64 9999] 3)).ownsRow w1.heap.size 3 1 (.slice (some ⟨w1.heap.size, 0, none⟩) 1 1) (cndK ls 0).length ((cndK ls 0).flatMap encI)) :=
    ⟨rfl, .inr ⟨w1.heap.size, 1, #[.int .i64 9999], rfl, Nat.le_refl _, World.alloc_heap_new _ _, Nat.le_refl _, by decide, rfl, rfl⟩⟩
  have hll := HLI.out.1
  refine wpIn_wide.2 ?_
  go_loopw [7, 26] (fun v i (wr : World) => ∃ k : Nat, k ≤ n ∧ i = .int .i64 k ∧ Hid (wr.ownsRow w1.heap.size 3 1 v (cndK ls k).length ((cndK ls k).flatMap encI)) ∧ Below w1.heap.size w1 wr) (fun _ i _ => n - (intOf i).toNat)
  case atStart => exact ⟨0, by omega, rfl, own0, by (repeat first | with_reducible assumption | with_reducible exact Below.refl _ _ | (with_reducible refine Below.alloc ?_ ?side _; case side => (first | omega | (with_reducible exact Below.size (by assumption)) | (simp; done) | (simp; omega))) | (with_reducible refine Below.setCell ?_ ?side _; case side => (first | omega | (with_reducible exact Below.size (by assumption)) | (simp; done) | (simp; omega))) | with_reducible refine Below.drew ?_ | with_reducible refine below_drewN ?_ _ | (with_reducible refine below_step (by assumption) ?side ?_; case side => (first | omega | (with_reducible exact Below.size (by assumption)) | (simp; done) | (simp; omega))))⟩
  case round =>
    obtain ⟨k, hk, rfl, HO, hb⟩ := hrel
    have zb := hb.size
    have hcl := cndK_len (ls := ls) (k := k) (by omega)
    by_cases hlt : k < n
    · have hltB : decide ((k : Int) < n) = true := by simp; omega
      obtain ⟨bl, ol, hA, hbl, x0, x1⟩ := (HLI.out.later (B1.trans (hb.mono z1))).get hlt
      subst hA
      have HYe := Lib.hid (cndK_succ (ls := ls) (k := k) (by omega))
      go_wp2_with (at_builtin; go_must (refine wpList_append_T _ (d := (0 : Int)) rfl (.tmp 30) (.tmp 35) _ rfl w1.heap.size _ 1 8 intE_q7 encI_len encI_one u7 u7.ownBlock (cndK ls k).length (cndK ls k) rfl rfl ?_ _ 2 _ [(spAt ls k).lo, (spAt ls k).hi] rfl ?_ ?_ ?_ ?_; (exact own_below HO.out (by (repeat first | with_reducible assumption | with_reducible exact Below.refl _ _ | (with_reducible refine Below.alloc ?_ ?side _; case side => (first | omega | (with_reducible exact Below.size (by assumption)) | (simp; done) | (simp; omega))) | (with_reducible refine Below.setCell ?_ ?side _; case side => (first | omega | (with_reducible exact Below.size (by assumption)) | (simp; done) | (simp; omega))) | with_reducible refine Below.drew ?_ | with_reducible refine below_drewN ?_ _ | (with_reducible refine below_step (by assumption) ?side ?_; case side => (first | omega | (with_reducible exact Below.size (by assumption)) | (simp; done) | (simp; omega)))))); (exact sl_new encI_len (by simp) rfl rfl); omega; (simp; omega); (intro v' w5 hown5 hg5 hat5; have hb5 : Below w1.heap.size w1 w5 := (Below.grown (by (repeat first | with_reducible assumption | with_reducible exact Below.refl _ _ | (with_reducible refine Below.alloc ?_ ?side _; case side => (first | omega | (with_reducible exact Below.size (by assumption)) | (simp; done) | (simp; omega))) | (with_reducible refine Below.setCell ?_ ?side _; case side => (first | omega | (with_reducible exact Below.size (by assumption)) | (simp; done) | (simp; omega))) | with_reducible refine Below.drew ?_ | with_reducible refine below_drewN ?_ _ | (with_reducible refine below_step (by assumption) ?side ?_; case side => (first | omega | (with_reducible exact Below.size (by assumption)) | (simp; done) | (simp; omega))))) hg5 (by simp; omega) (own_ge HO.out)); have hown6 : Hid (w5.ownsRow w1.heap.size 3 1 v' (cndK ls (k + 1)).length ((cndK ls (k + 1)).flatMap encI)) := (by rw [HYe.out, List.length_append]; exact hown5); clear hown5 hg5 hat5)))
      go_roundw
      case rel => exact ⟨k + 1, by omega, by go_num, hown6, hb5⟩
      case measure => simp [intOf]; omega
    · obtain rfl : k = n := by omega
      have hltB : decide (((k : Nat) : Int) < k) = false := by simp
      have hall := cndK_all (ls := ls) hll
      have hlen := cndK_len (ls := ls) (k := k) (by omega)
      rw [hall] at HO hlen
      have hso := sort_own_q7 HO.out (by simp [cand]) (by omega)
      have hzl : ((cand ls).mergeSort leI_q7).length = 2 * k + 1 := by rw [List.length_mergeSort]; exact hlen
      have hst : Hid (strO q ls k cuts = ((cand ls).mergeSort leI_q7).reverse.find? (okB_q7 q ls k cuts)) := rfl
      have hmem : ∀ v, v ∈ (cand ls).mergeSort leI_q7 → v ∈ cand ls := fun v hv => by simpa using hv
      obtain ⟨zs, hzs⟩ : ∃ zs, (cand ls).mergeSort leI_q7 = zs := ⟨_, rfl⟩
      rw [hzs] at hso hzl hst hmem
      rw [hlen] at hso
      have HSO := Lib.hid hso
      have HME := Lib.hid hmem
      have hgo := own_ge HO.out
      have HGO := Lib.hid hgo
      clear hso hmem hzs hgo own0 HO hall hlen hcl
      go_wp2_with fail
      gi_wp2_with fail
      refine ⟨trivial, callsIn_wide.2 (HSO.out.mono ?_)⟩
      rintro e w2 ⟨rfl, hown2, hg2⟩
      obtain ⟨G, cg, rfl, -, hsl⟩ := SlAt.of_own (d := (0 : Int)) encI_len hown2 hzl
      have HX := Lib.hid (ints_iff.2 hsl)
      have hgb := own_ge hown2
      have B2 : Below w1.heap.size w1 w2 := Below.grown hb hg2 zb HGO.out
      have z2 := B2.size
      obtain ⟨bg, og, hG, hgl, hgr⟩ := HX.out.2 (by omega)
      have hgw : w1.heap.size ≤ bg := hgb bg (by rw [hG]; rfl)
      clear hsl hown2 hg2 hgb hgr HSO HGO hb
      subst hG
      gi_wp2_with fail
      refine ⟨trivial, callsIn_wide.2 ((backward_c (some ⟨bg, og, none⟩) (2 * k + 1) cg w2).mono ?_)⟩
      rintro e w3 ⟨rfl, hw3⟩
      have B3 : Below w1.heap.size w1 w3 := by rw [hw3]; exact B2.alloc z2 _
      have z3 : w3.heap.size = w2.heap.size + 1 := by rw [hw3]; simp
      have b3 : w3.cell? ⟨w2.heap.size, 0, none⟩ = some (.slice (some ⟨bg, og, none⟩) (2 * k + 1) cg) := by
        have := (Blk.new w2 33 #[.slice (some ⟨bg, og, none⟩) (2 * k + 1) cg]).cell 0
        rw [hw3]; exact this
      have HX3 : Hid (IntsAt w3 (some ⟨bg, og, none⟩) (2 * k + 1) zs) := Lib.hid (by rw [hw3]; exact HX.out.later ((Below.refl _ w2).alloc (Nat.le_refl _) _))
      clear hw3 HX
      gi_wp2_with fail
      have en := enters_of Try.func91 (by kernel_rfl) rfl
      have w1lt := z1
      have BW := B1.trans (B3.mono z1)
      refine wpIn_range (gf := 91) (fst := #[]) (lb := #[.pointer (some ⟨w2.heap.size, 0, none⟩)]) rfl en (back1_c w2.heap.size (some ⟨bg, og, none⟩) (2 * k + 1) cg zs (by omega)) ?hps
        (fun j W => (∀ i, i < j → ∀ u, zs.reverse[i]? = some u → okB_q7 q ls k cuts u = false) ∧
          (∃ v', Blk W w.heap.size 48 #[.slice A k c, .int .i64 v', .int .i64 q.gap, .int .i64 q.doubt, .int .i64 q.joins, .int .i64 q.least]) ∧ Fr w.heap.size w3.heap.size w3 W)
        (fun c W => c = .ret ∧ ∃ b, strO q ls k cuts = some b ∧ W.cell? ⟨w.heap.size + 1 + 1, 0, none⟩ = some (.int .i64 b) ∧ W.cell? ⟨w.heap.size + 1 + 1 + 1, 0, none⟩ = some (.int .i64 0) ∧ Below w.heap.size w W) ?hI ?hIx ?hmem ?hi0 ?hround ?hdone ?hstop
      case hps => rintro x args W rfl; rfl
      case hI =>
        rintro j W W' ⟨a0, ⟨v', a1⟩, a2⟩ ht
        exact ⟨a0, ⟨v', (ht.heap a1 rfl).trans a1⟩, a2.tame (Nat.le_refl _) ht⟩
      case hIx =>
        rintro c W W' ⟨rfl, b, a0, a1, a2, a3⟩ ht
        exact ⟨rfl, b, a0, ht.cell a1, ht.cell a2, ht.below (by omega) a3.size a3⟩
      case hmem =>
        rintro j W ⟨_, _, h⟩
        exact ⟨(h.cell (p := ⟨w2.heap.size, 0, none⟩) (by simp; omega) (by simp; omega) (by simp; omega)).trans b3, ints_fr HX3.out h (by omega) (by omega)⟩
      case hi0 => exact ⟨fun i hi => absurd hi (by omega), ⟨q.need, (D0.out.below B3 (by omega))⟩, ⟨rfl, rfl, rfl, Nat.le_refl _, fun _ _ _ _ => rfl⟩⟩
      case hround =>
        rintro l j i args W hl' hx ⟨a0, ⟨v', a1⟩, a2⟩ rfl
        obtain ⟨hjm, him, hzi⟩ := rev_at hzl hx
        have hv : iAt zs i ∈ cand ls := HME.out _ (List.mem_reverse.1 (List.mem_of_getElem? hzi))
        have hck' := ck_at hll HCK.out hv
        have hrun := okB_run (cuts := cuts) hck'
        obtain ⟨v, hvv⟩ : ∃ v, iAt zs i = v := ⟨_, rfl⟩
        rw [hvv] at hzi hrun
        have HZ := Lib.hid hzi
        have HRU := Lib.hid hrun
        have HA0 := Lib.hid a0
        obtain ⟨L, hL⟩ : ∃ L, (plC k ls (q.at_ v)).length = L := ⟨_, rfl⟩
        obtain ⟨z, hz⟩ : ∃ z, erS_q7 k ls (q.at_ v) = z := ⟨_, rfl⟩
        rw [hL, hz] at HRU
        have hfw : ∀ Z, Below w.heap.size w Z → Calls Try.prog 40 #[.agg #[.slice A k c, .int .i64 v, .int .i64 q.gap, .int .i64 q.doubt, .int .i64 q.joins, .int .i64 q.least]] Z fun e Z' => e = .returned (.tuple #[.int .i64 L, .int .i64 z]) ∧ Below Z.heap.size Z Z' := fun Z hZ => by
          rw [← hL, ← hz]
          exact fewest_c_q7 A k c (q.at_ v) ls Z hn hq (HLI.out.later hZ)
        have HFW := Lib.hid hfw
        clear hx hjm him hzi hv hck' hrun a0 hL hz hfw
        gi_wp2
        refine ⟨KeepsFrom.refl _ _, fun W2 ht => ?_⟩
        have t1 : Blk W2 w.heap.size 48 #[.slice A k c, .int .i64 v', .int .i64 q.gap, .int .i64 q.doubt, .int .i64 q.joins, .int .i64 q.least] := (ht.heap a1 rfl).trans a1
        have t2 := a2.tame (Nat.le_refl _) ht
        have zt := t2.size
        have lc := t1.lt
        have c0 := t1.cell
        have c1 := t1.frozen 1
        have T1 : Hid (Blk (W2.setCell ⟨w.heap.size, 1, none⟩ (.int .i64 v)) w.heap.size 48 #[.slice A k c, .int .i64 v, .int .i64 q.gap, .int .i64 q.doubt, .int .i64 q.joins, .int .i64 q.least]) := by
          have h := t1.set_ 1 (.int .i64 v)
          show Blk _ _ _ _
          simpa using h
        have T2 : Hid (Fr w.heap.size w3.heap.size w3 (W2.setCell ⟨w.heap.size, 1, none⟩ (.int .i64 v))) := t2.trans ⟨rfl, rfl, rfl, by simp, fun g _ h _ => Below.heap_setCell W2 _ _ g h⟩
        clear a1 a2 ht
        gi_wp2_with fail
        have hbX : Below w.heap.size w (W2.setCell ⟨w.heap.size, 1, none⟩ (.int .i64 v)) := T2.out.below BW (Nat.le_refl _) (by omega) (by omega)
        refine ⟨trivial, callsIn_wide.2 ((HFW.out _ hbX).mono ?_)⟩
        rintro e w5 ⟨rfl, hb5⟩
        have z5 := hb5.size
        have zX : (W2.setCell ⟨w.heap.size, 1, none⟩ (.int .i64 v)).heap.size = W2.heap.size := by simp
        have U1 : Hid (Blk w5 w.heap.size 48 #[.slice A k c, .int .i64 v, .int .i64 q.gap, .int .i64 q.doubt, .int .i64 q.joins, .int .i64 q.least]) := Lib.hid (T1.out.below hb5 (by omega))
        have U2 : Fr w.heap.size w3.heap.size w3 w5 := T2.out.trans (Fr.of_below hb5)
        have bw5 : Below w.heap.size w w5 := U2.below BW (Nat.le_refl _) (by omega) (by omega)
        have kp : KeepsFrom w3.heap.size W2 w5 := keeps_step hb5 (Nat.le_refl _) (keeps_setCell (.refl _ _) _ _)
        have r0 := (U2.cell (p := ⟨w.heap.size + 1, 0, none⟩) (by simp; omega) (by simp) (by simp; omega)).trans ((B3.cell (p := ⟨w.heap.size + 1, 0, none⟩) (by simp; omega)).trans (d1 0))
        have r1 := (U2.cell (p := ⟨w.heap.size + 1 + 1, 0, none⟩) (by simp; omega) (by simp; omega) (by simp; omega)).trans ((B3.cell (p := ⟨w.heap.size + 1 + 1, 0, none⟩) (by simp; omega)).trans (s1 0))
        have r2 := (U2.cell (p := ⟨w.heap.size + 1 + 1 + 1, 0, none⟩) (by simp; omega) (by simp; omega) (by simp; omega)).trans ((B3.cell (p := ⟨w.heap.size + 1 + 1 + 1, 0, none⟩) (by simp; omega)).trans (s2 0))
        have f1 := (World.frozen?_of_block (a := ⟨w.heap.size + 1 + 1, 0, none⟩) (U2.same _ (by show _ < _; simp; omega) (by show _ ≠ _; simp; omega) (by show _ < _; simp; omega))).trans ((B3.frozen (p := ⟨w.heap.size + 1 + 1, 0, none⟩) (by simp; omega)).trans (g1 0))
        have f2 := (World.frozen?_of_block (a := ⟨w.heap.size + 1 + 1 + 1, 0, none⟩) (U2.same _ (by show _ < _; simp; omega) (by show _ ≠ _; simp; omega) (by show _ < _; simp; omega))).trans ((B3.frozen (p := ⟨w.heap.size + 1 + 1 + 1, 0, none⟩) (by simp; omega)).trans (g2 0))
        have zw5 := U2.size
        have HU2 := Lib.hid U2
        have hnext : okB_q7 q ls k cuts v = false → ∀ i', i' < j + 1 → ∀ u, zs.reverse[i']? = some u → okB_q7 q ls k cuts u = false := fun ho i' hi u hu => by
          rcases Nat.lt_succ_iff_lt_or_eq.1 hi with h | rfl
          · exact HA0.out i' h u hu
          · rw [HZ.out] at hu
            cases hu
            exact ho
        have HNX := Lib.hid hnext
        have hyes : okB_q7 q ls k cuts v = true → strO q ls k cuts = some v := fun ho => hst.out.trans (str_some (zs := []) HZ.out ho HA0.out)
        have HYS := Lib.hid hyes
        clear T1 T2 t1 t2 c0 c1 hb5 hbX z5 zX U2 hnext hyes
        cases e1 : (z == 0)
        · rw [e1] at HRU
          have ho := Lib.hid (HNX.out HRU.out)
          gi_wp2
          exact ⟨kp, ho.out, ⟨v, U1.out⟩, HU2.out⟩
        · cases e2 : decide ((L : Int) ≤ cuts)
          · rw [e1, e2] at HRU
            have ho := Lib.hid (HNX.out HRU.out)
            gi_wp2
            exact ⟨kp, ho.out, ⟨v, U1.out⟩, HU2.out⟩
          · rw [e1, e2] at HRU
            have ho := Lib.hid (HYS.out HRU.out)
            gi_wp2
            obtain ⟨c1, c2⟩ := two_cells (u := .int .i64 v) (v := .int .i64 0) (by simp) r1 r2
            exact ⟨keeps_setCell (keeps_setCell kp _ _) _ _, rfl, v, ho.out, c1, c2, by (repeat first | with_reducible assumption | with_reducible exact Below.refl _ _ | (with_reducible refine Below.alloc ?_ ?side _; case side => (first | omega | (with_reducible exact Below.size (by assumption)) | (simp; done) | (simp; omega))) | (with_reducible refine Below.setCell ?_ ?side _; case side => (first | omega | (with_reducible exact Below.size (by assumption)) | (simp; done) | (simp; omega))) | with_reducible refine Below.drew ?_ | with_reducible refine below_drewN ?_ _ | (with_reducible refine below_step (by assumption) ?side ?_; case side => (first | omega | (with_reducible exact Below.size (by assumption)) | (simp; done) | (simp; omega))))⟩
      case hdone =>
        rintro D W hD ⟨a0, -, a2⟩ hK
        rw [List.length_reverse, List.length_range] at a0
        have hM : MarksOk [D] W := (MarksOk.nil W).cons hK (by simp)
        have HN := Lib.hid (hst.out.trans (str_none (by rw [List.length_reverse, hzl]; exact a0)))
        have r1 := (a2.cell (p := ⟨w.heap.size + 1 + 1, 0, none⟩) (by simp; omega) (by simp; omega) (by simp; omega)).trans ((B3.cell (p := ⟨w.heap.size + 1 + 1, 0, none⟩) (by simp; omega)).trans (s1 0))
        have r2 := (a2.cell (p := ⟨w.heap.size + 1 + 1 + 1, 0, none⟩) (by simp; omega) (by simp; omega) (by simp; omega)).trans ((B3.cell (p := ⟨w.heap.size + 1 + 1 + 1, 0, none⟩) (by simp; omega)).trans (s2 0))
        have f1 := (World.frozen?_of_block (a := ⟨w.heap.size + 1 + 1, 0, none⟩) (a2.same _ (by show _ < _; simp; omega) (by show _ ≠ _; simp; omega) (by show _ < _; simp; omega))).trans ((B3.frozen (p := ⟨w.heap.size + 1 + 1, 0, none⟩) (by simp; omega)).trans (g1 0))
        have f2 := (World.frozen?_of_block (a := ⟨w.heap.size + 1 + 1 + 1, 0, none⟩) (a2.same _ (by show _ < _; simp; omega) (by show _ ≠ _; simp; omega) (by show _ < _; simp; omega))).trans ((B3.frozen (p := ⟨w.heap.size + 1 + 1 + 1, 0, none⟩) (by simp; omega)).trans (g2 0))
        have bw : Below w.heap.size w W := a2.below BW (Nat.le_refl _) (by omega) (by omega)
        have zw := a2.size
        have HM := Lib.hid hM
        clear a0 a2 hM
        gi_wp2
        rw [HN.out]
        obtain ⟨c1, c2⟩ := two_cells (u := .int .i64 0) (v := .int .i64 3) (by simp) r1 r2
        refine leave_marks (B := w3.heap.size) (v := .tuple #[.int .i64 0, .int .i64 3]) [D] _ (HM.out.keeps (B := w3.heap.size) (by simpa using hD) (by (repeat first | with_reducible assumption | with_reducible exact KeepsFrom.refl _ _ | refine keeps_drewN ?_ _ | refine keeps_drew ?_ | refine keeps_alloc ?_ _ | refine keeps_setCell ?_ _ _ | refine keeps_step (by assumption) (Nat.le_refl _) ?_))) (by simpa using hD) (fun W' ht => ?_) (fun W' ht => ⟨rfl, ht.below (by omega) (by simp; omega) (by (repeat first | with_reducible assumption | with_reducible exact Below.refl _ _ | refine below_drewN ?_ _ | refine Below.drew ?_ | refine Below.alloc ?_ (by first | omega | (with_reducible exact Below.size (by assumption)) | (simp; done) | (simp; omega)) _ | refine Below.setCell ?_ (by first | omega | (with_reducible exact Below.size (by assumption)) | (simp; done) | (simp; omega)) _ | refine below_step (by assumption) (by first | omega | (with_reducible exact Below.size (by assumption)) | (simp; done) | (simp; omega)) ?_))⟩)
        have d1 := ht.cell c1
        have d2 := ht.cell c2
        simp [results, Try.results42, go_sem, d1, d2]
      case hstop =>
        rintro D c W hD ⟨rfl, b, a0, a1, a2, a3⟩ hK
        have HM := Lib.hid (show MarksOk [D] W from (MarksOk.nil W).cons hK (by simp))
        have HN := Lib.hid a0
        have zw := a3.size
        clear a0
        gi_wp2
        rw [HN.out]
        refine leave_marks (B := w3.heap.size) (v := .tuple #[.int .i64 b, .int .i64 0]) [D] W HM.out (by simpa using hD) (fun W' ht => ?_) (fun W' ht => ⟨rfl, ht.below (by omega) (by omega) a3⟩)
        have d1 := ht.cell a1
        have d2 := ht.cell a2
        simp [results, Try.results42, go_sem, d1, d2]

end Go.Proofs.Ytglpgcgidkdkiaa
