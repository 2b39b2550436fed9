/- What a loop over sawings keeps; Many of bars (layer 1). -/
import Derived.Test.YtmopnbijfcamjaaTru1
namespace Go.Proofs.Ytmopnbijfcamjaa
open Go.RowKit
open Go.Sort (grow)
set_option linter.unusedVariables false

attribute [local go_sem] Oper.semAt_some
theorem Blk.tame {B g : Nat} {t : TypeId} {cs : Array Value} {W W' : World} (h : Blk W g t cs) (ht : Tame B W W') : Blk W' g t cs := (ht.heap h rfl).trans h
theorem SawM.tame {B B' b nb : Nat} {st : Sw} {W W' : World} (h : SawM B b nb st W) (ht : Tame B' W W') : SawM B b nb st W' := by
  obtain ⟨A1, c1, A2, c2, A3, c3, h0, h1, h1', ⟨h2, h3⟩, ⟨h4, h5⟩, h6, h7⟩ := h.ex
  have up : ∀ {A : Option Addr}, (∀ a, A = some a → B ≤ a.block ∧ a.block ≠ b ∧ a.block < W.heap.size) → ∀ a, A = some a → B ≤ a.block ∧ a.block ≠ b ∧ a.block < W'.heap.size := fun h a e => ⟨(h a e).1, (h a e).2.1, Nat.lt_of_lt_of_le (h a e).2.2 ht.size⟩
  exact ⟨h.rl, h.cl, A1, c1, A2, c2, A3, c3, h0.tame ht, h1, h1', ⟨ht.ints h2, up h3⟩, ⟨ht.ints h4, up h5⟩, ht.ints h6, up h7⟩
/-- what is kept while sawings are ranged over -/
structure RgB (w : World) (b1 b2 : Nat) (Ab Ap : Option Addr) (nb cb np cp : Nat) (kf wrg most : Int) (W : World) : Prop where
  bw : Below w.heap.size w W
  k1 : Blk W b1 25 #[.slice Ab nb cb, .int .i64 kf, .slice Ap np cp, .int .i64 wrg]
  k2 : Blk W b2 3 #[.int .i64 most]
section
variable {w : World} {b1 b2 : Nat} {Ab Ap : Option Addr} {nb cb np cp : Nat} {kf wrg most : Int} {W W' : World}
theorem RgB.later (h : RgB w b1 b2 Ab Ap nb cb np cp kf wrg most W) (hb : Below W.heap.size W W') : RgB w b1 b2 Ab Ap nb cb np cp kf wrg most W' :=
  ⟨h.bw.trans (hb.mono h.bw.size), h.k1.below hb h.k1.lt, h.k2.below hb h.k2.lt⟩
theorem RgB.tameB {B b : Nat} (h : RgB w b1 b2 Ab Ap nb cb np cp kf wrg most W) (ht : TameB B b W W') (hB : w.heap.size ≤ B) (hb : w.heap.size ≤ b) (h1 : b1 ≠ b) (h2 : b2 ≠ b) : RgB w b1 b2 Ab Ap nb cb np cp kf wrg most W' :=
  ⟨ht.below hB hb h.bw.size h.bw, ht.blk h.k1 h1, ht.blk h.k2 h2⟩
theorem RgB.tame {B : Nat} (h : RgB w b1 b2 Ab Ap nb cb np cp kf wrg most W) (ht : Tame B W W') (hB : w.heap.size ≤ B) : RgB w b1 b2 Ab Ap nb cb np cp kf wrg most W' :=
  ⟨ht.below hB h.bw.size h.bw, (ht.heap h.k1 rfl).trans h.k1, (ht.heap h.k2 rfl).trans h.k2⟩
theorem RgB.set {p : Addr} (h : RgB w b1 b2 Ab Ap nb cb np cp kf wrg most W) (hp : w.heap.size ≤ p.block) (h1 : b1 ≠ p.block) (h2 : b2 ≠ p.block) (u : Value) : RgB w b1 b2 Ab Ap nb cb np cp kf wrg most (W.setCell p u) :=
  ⟨h.bw.setCell hp u, h.k1.far h1 u, h.k2.far h2 u⟩
theorem RgB.drew (h : RgB w b1 b2 Ab Ap nb cb np cp kf wrg most W) : RgB w b1 b2 Ab Ap nb cb np cp kf wrg most W.drew := ⟨Below.drew h.bw, h.k1, h.k2⟩
theorem RgB.mem {bs : List Br} {ms : List Pm} {ps : List Pc} (h : RgB w b1 b2 Ab Ap nb cb np cp kf wrg most W) (HB : BrsAt w Ab nb bs) (HP : PcsAt w Ap np ms ps) : SwMem b1 b2 Ab Ap nb cb np cp kf wrg most bs ms ps W :=
  ⟨h.k1, h.k2, HB.later h.bw, HP.later h.bw⟩
theorem RgB.of {bs : List Br} {ms : List Pm} {ps : List Pc} (h : SwMem b1 b2 Ab Ap nb cb np cp kf wrg most bs ms ps W) (hb : Below w.heap.size w W) : RgB w b1 b2 Ab Ap nb cb np cp kf wrg most W := ⟨hb, h.k1, h.k2⟩
end
theorem askE_0 {bs : List Br} {ps : List Pc} {kf wr : Int} {is : Bool} (h : askE bs ps kf wr is = 0) : ckS bs ps kf wr = true ∧ is = true ∧ swA bs ps kf wr ≠ [] := by
  unfold askE at h
  cases e1 : ckS bs ps kf wr <;> rw [e1] at h
  · simp at h
  · cases is
    · simp at h
    · refine ⟨rfl, rfl, fun e => ?_⟩
      rw [e] at h
      simp at h
theorem askE_or {bs : List Br} {ps : List Pc} {kf wr : Int} {is : Bool} : askE bs ps kf wr is = 0 ∨ askE bs ps kf wr is = 1 ∨ askE bs ps kf wr is = 3 ∨ askE bs ps kf wr is = 10 := by
  unfold askE
  cases ckS bs ps kf wr <;> cases is <;> simp
  cases (swA bs ps kf wr).isEmpty <;> simp
theorem swA_len {bs : List Br} {ps : List Pc} {kf wr : Int} {nb np : Nat} (ok : OkSt bs ps kf nb np) : (swA bs ps kf wr).length ≤ 1679616 := by
  have h : ∀ (p : Nat) (st : Sw), (swL bs ps kf wr nb p st).length ≤ 6 ^ p := by
    intro p
    induction p with
    | zero => intro st; simp [swL]
    | succ p ih =>
      intro st
      rw [swL_succ]
      have : ∀ k, (swK bs ps kf wr nb p st k).length ≤ k * 6 ^ p := by
        intro k
        induction k with
        | zero => simp [swK]
        | succ k ihk =>
          cases e : tkS bs ps kf wr st k
          · rw [swK_no e, Nat.succ_mul]; exact Nat.le_trans ihk (Nat.le_add_right _ _)
          · rw [swK_yes e, List.length_append, Nat.succ_mul]
            exact Nat.add_le_add (ihk) (ih (stS bs ps kf st k))
      refine Nat.le_trans (this nb) ?_
      rw [Nat.pow_succ, Nat.mul_comm]
      exact Nat.mul_le_mul_left _ ok.hb
  unfold swA
  rw [ok.bl]
  refine Nat.le_trans (h _ _) (Nat.le_trans (Nat.pow_le_pow_right (by omega) (show ps.length ≤ 8 by rw [ok.pl]; exact ok.hp)) (by decide))
theorem swL_of_len {bs : List Br} {ps : List Pc} {kf wr : Int} {nb : Nat} : ∀ (p : Nat) (st x : Sw), x ∈ swL bs ps kf wr nb p st → x.of.length = st.of.length + p := by
  intro p
  induction p with
  | zero => intro st x h; simp [swL] at h; rw [h]; rfl
  | succ p ih =>
    intro st x h
    rw [swL_succ, swK, List.mem_flatMap] at h
    obtain ⟨bar, -, h⟩ := h
    cases e : tkS bs ps kf wr st bar <;> rw [e] at h
    · simp at h
    · have := ih _ x h
      simp only [stS, List.length_append, List.length_cons, List.length_nil] at this
      omega
theorem swA_of_len {bs : List Br} {ps : List Pc} {kf wr : Int} {x : Sw} (h : x ∈ swA bs ps kf wr) : x.of.length = ps.length := by
  have := swL_of_len _ _ x h
  simpa [sw0] using this
def manyR (bs : List Br) (ps : List Pc) (kf wr : Int) : Int := bif askE bs ps kf wr true == 0 then ((swA bs ps kf wr).length : Int) else 0
def cntL {α : Type} (p : α → Bool) (L : List α) (k : Nat) : Nat := (L.take k).countP p
theorem cntL_0 {α : Type} (p : α → Bool) (L : List α) : cntL p L 0 = 0 := by simp [cntL]
theorem cntL_succ {α : Type} {p : α → Bool} {L : List α} {k : Nat} {x : α} (h : L[k]? = some x) : cntL p L (k + 1) = cntL p L k + (bif p x then 1 else 0) := by
  unfold cntL
  rw [List.take_add_one, h, List.countP_append]
  cases e : p x <;> simp [e]
theorem cntL_all {α : Type} (p : α → Bool) (L : List α) : cntL p L L.length = L.countP p := by simp [cntL]
theorem cntL_le {α : Type} (p : α → Bool) (L : List α) (k : Nat) : cntL p L k ≤ L.length := Nat.le_trans List.countP_le_length (by rw [List.length_take]; omega)
set_option maxRecDepth 100000 in
set_option maxHeartbeats 3200000 in
theorem many_c (Ab Ap : Option Addr) (nb cb np cp : Nat) (kf wrg : Int) (bs : List Br) (ms : List Pm) (ps : List Pc) (w : World) (h1 : nb ≤ 40) (h2 : np ≤ 40) (h3 : ∀ k, k < np → (pcAt ps k).hs.length ≤ 40) (HB : BrsAt w Ab nb bs) (HP : PcsAt w Ap np ms ps) :
    Calls Try.prog 17 #[.agg #[.slice Ab nb cb, .int .i64 kf, .slice Ap np cp, .int .i64 wrg]] w fun e w' => e = .returned (.tuple #[.int .i64 (manyR bs ps kf wrg), .int .i64 (askE bs ps kf wrg true)]) ∧ Below w.heap.size w w' := by
  have HBI := Lib.hid HB
  have HPI := Lib.hid HP
  have htr := fun is W (hb : Below w.heap.size w W) => truths_c Ab Ap nb cb np cp kf wrg is bs ms ps W h1 h2 h3 (HB.later hb) (HP.later hb)
  have hBl := HB.1
  have hPl := HP.pl
  have HOK := Lib.hid (fun h => okSt_of (kf := kf) (wr := wrg) hBl hPl h3 h)
  obtain ⟨z, hz⟩ : ∃ z, askE bs ps kf wrg true = z := ⟨_, rfl⟩
  have hz4 := askE_or (bs := bs) (ps := ps) (kf := kf) (wr := wrg) (is := true)
  rw [hz] at hz4
  replace htr := htr true
  rw [hz] at htr
  replace htr := Lib.hid htr
  clear HB HP hBl hPl h3
  by_cases hz0 : z = 0
  · have hR : manyR bs ps kf wrg = ((swA bs ps kf wrg).length : Int) := by unfold manyR; rw [hz, hz0]; rfl
    subst hz0
    obtain ⟨hck, -, hne⟩ := askE_0 hz
    obtain ⟨ok, hw0, hw8⟩ := HOK.out hck
    have OK := Lib.hid ok
    have hle := swA_len (wr := wrg) ok
    obtain ⟨N, hN⟩ : ∃ N, (swA bs ps kf wrg).length = N := ⟨_, rfl⟩
    rw [hR, hz, hN]
    rw [hN] at hle
    have HN := Lib.hid hN
    clear hR hz hz4 hck hne ok hN HOK
    refine (callsIn_wide (n := 6)).1 (callsIn_of_wp_marks Try.func17 rfl trivial ?_ rfl)
    simp only [Try.ntmps17, List.size_toArray, List.length_cons, List.length_nil, Nat.reduceAdd, Nat.reduceSub, Array.replicate_succ, Array.replicate_zero, List.push_toArray, List.append_toArray, List.nil_append, List.cons_append]
    gi_wp2_with fail
    refine ⟨trivial, callsIn_wide.2 ((htr.out _ (by (repeat first | with_reducible assumption | with_reducible exact Below.refl _ _ | (with_reducible refine Below.alloc ?_ ?side _; case side => (first | omega | (with_reducible exact Below.size (by assumption)) | (simp; done) | (simp; omega))) | (with_reducible refine Below.setCell ?_ ?side _; case side => (first | omega | (with_reducible exact Below.size (by assumption)) | (simp; done) | (simp; omega))) | with_reducible refine Below.drew ?_ | with_reducible refine below_drewN ?_ _ | (with_reducible refine below_step (by assumption) ?side ?_; case side => (first | omega | (with_reducible exact Below.size (by assumption)) | (simp; done) | (simp; omega)))))).mono ?_)⟩
    rintro e w1 ⟨f, rfl, hb1, hf1, -⟩
    obtain ⟨b1, b2, rfl, p1, p2, hne, hM⟩ := hf1 rfl
    have hbw1 : Below w.heap.size w w1 := by (repeat first | with_reducible assumption | with_reducible exact Below.refl _ _ | (with_reducible refine Below.alloc ?_ ?side _; case side => (first | omega | (with_reducible exact Below.size (by assumption)) | (simp; done) | (simp; omega))) | (with_reducible refine Below.setCell ?_ ?side _; case side => (first | omega | (with_reducible exact Below.size (by assumption)) | (simp; done) | (simp; omega))) | with_reducible refine Below.drew ?_ | with_reducible refine below_drewN ?_ _ | (with_reducible refine below_step (by assumption) ?side ?_; case side => (first | omega | (with_reducible exact Below.size (by assumption)) | (simp; done) | (simp; omega))))
    have K0 := Lib.hid ((Blk.new (w.alloc (.cells #[.slice Ab nb cb, .int .i64 kf, .slice Ap np cp, .int .i64 wrg] 25)) 3 #[.int .i64 0]).below hb1 (by simp))
    simp only [World.size_alloc] at K0 p1 p2
    have R0 := Lib.hid (RgB.of hM hbw1)
    have zs1 := hb1.size
    simp only [World.size_alloc] at zs1
    clear hb1 hf1 hM
    gi_wp2
    have en := enters_of Try.func82 (by kernel_rfl) rfl
    refine wpIn_rangeS (gf := 82) (fst := #[]) (lb := #[.pointer (some ⟨b1, 0, none⟩), .pointer (some ⟨b2, 0, none⟩)]) rfl en (sawings1_c b1 b2 Ab Ap nb cb np cp kf wrg wrg bs ms ps OK.out ⟨hw0, hw8⟩) rfl
      (fun b k W => RgB w b1 b2 Ab Ap nb cb np cp kf wrg wrg W ∧ Blk W (w.heap.size + 1) 3 #[.int .i64 k])
      (fun c W => False) ?hI ?hIx ?hmem ?h0 ?hround ?hdone ?hstop
    case hI =>
      rintro b k W W' hb ⟨a1, a2⟩ ht
      have l1 := R0.out.k1.lt
      have l2 := R0.out.k2.lt
      exact ⟨a1.tameB ht (by omega) (by omega) (by omega) (by omega), ht.blk a2 (by omega)⟩
    case hIx => exact fun c W W' h => h.elim
    case hmem => exact fun b k W hb h => h.1.mem HBI.out HPI.out
    case h0 => exact fun b W hb h => ⟨R0.out.later h, K0.out.below h K0.out.lt⟩
    case hround =>
      rintro l b k x W hl hb hx ⟨a1, a2⟩ hat
      have hkN : k < N := by rw [← HN.out]; exact (List.getElem?_eq_some_iff.1 hx).1
      have A1 := Lib.hid a1
      have A2 := Lib.hid a2
      have l1 := R0.out.k1.lt
      have l2 := R0.out.k2.lt
      clear a1 a2 hat hx
      gi_wp2
      refine ⟨KeepsFrom.refl _ _, KeepC.refl _ _, fun W2 ht => ?_⟩
      have B1 := Lib.hid (A1.out.tame ht (by omega))
      have B2 := Lib.hid (A2.out.tame ht)
      have c2 := B2.out.cell 0
      have f2 := B2.out.frozen 0
      have hw : IntKind.i64.wrap ((k : Int) + 1) = (k : Int) + 1 := IntWalk.i64_in _ (by omega)
      have z2 := B1.out.bw.size
      have zt := ht.size
      clear ht
      gi_wp2
      exact ⟨by (repeat first | with_reducible assumption | with_reducible exact KeepsFrom.refl _ _ | with_reducible refine keeps_setCell ?_ _ _ | with_reducible refine keeps_alloc ?_ _ | with_reducible refine keeps_drew ?_ | with_reducible refine keeps_drewN ?_ _ | with_reducible refine keeps_step (by assumption) (Nat.le_refl _) ?_), .set (by show w.heap.size + 1 < _; omega) _, B1.out.set (by show w.heap.size ≤ w.heap.size + 1; omega) (by show b1 ≠ w.heap.size + 1; omega) (by show b2 ≠ w.heap.size + 1; omega) _, by simpa using B2.out.set_ 0 (.int .i64 ((k : Int) + 1))⟩
    case hdone =>
      rintro D b W hD hb ⟨a1, a2⟩ hK
      have e2 := a2.cell 0
      rw [HN.out] at e2
      have f2 := a2.frozen 0
      have A1 := Lib.hid a1
      have zz := a1.bw.size
      have hbw := a1.bw
      clear a1 a2
      gi_wp2
      have d1 := World.cell?_setCell_same W ⟨w.heap.size + 1, 0, none⟩ (.int .i64 N) e2
      refine leave_mark (v := .tuple #[.int .i64 N, .int .i64 0]) (keeps_mark (B := w1.heap.size) (W := W) (by (repeat first | with_reducible assumption | with_reducible exact KeepsFrom.refl _ _ | with_reducible refine keeps_setCell ?_ _ _ | with_reducible refine keeps_alloc ?_ _ | with_reducible refine keeps_drew ?_ | with_reducible refine keeps_drewN ?_ _ | with_reducible refine keeps_step (by assumption) (Nat.le_refl _) ?_)) hD hK) (fun W' ht => ?_) (fun W' ht => ⟨rfl, ht.below (by omega) (by simp; omega) (by (repeat first | with_reducible assumption | with_reducible exact Below.refl _ _ | (with_reducible refine Below.alloc ?_ ?side _; case side => (first | omega | (with_reducible exact Below.size (by assumption)) | (simp; done) | (simp; omega))) | (with_reducible refine Below.setCell ?_ ?side _; case side => (first | omega | (with_reducible exact Below.size (by assumption)) | (simp; done) | (simp; omega))) | with_reducible refine Below.drew ?_ | with_reducible refine below_drewN ?_ _ | (with_reducible refine below_step (by assumption) ?side ?_; case side => (first | omega | (with_reducible exact Below.size (by assumption)) | (simp; done) | (simp; omega)))))⟩)
      have d1' := ht.cell d1
      simp [results, Try.results17, go_sem, d1']
    case hstop => exact fun D c W hD h => h.elim
  · have hR : manyR bs ps kf wrg = 0 := by unfold manyR; rw [hz]; cases e : (z == 0) <;> simp_all
    rw [hR, hz]
    have hz0B : (z != 0) = true := by simpa using hz0
    have HZ := Lib.hid hz0
    clear hR hz hz4 hz0 HOK
    refine (callsIn_wide (n := 6)).1 (callsIn_of_wp_marks Try.func17 rfl trivial ?_ rfl)
    simp only [Try.ntmps17, List.size_toArray, List.length_cons, List.length_nil, Nat.reduceAdd, Nat.reduceSub, Array.replicate_succ, Array.replicate_zero, List.push_toArray, List.append_toArray, List.nil_append, List.cons_append]
    gi_wp2_with fail
    refine ⟨trivial, callsIn_wide.2 ((htr.out _ (by (repeat first | with_reducible assumption | with_reducible exact Below.refl _ _ | (with_reducible refine Below.alloc ?_ ?side _; case side => (first | omega | (with_reducible exact Below.size (by assumption)) | (simp; done) | (simp; omega))) | (with_reducible refine Below.setCell ?_ ?side _; case side => (first | omega | (with_reducible exact Below.size (by assumption)) | (simp; done) | (simp; omega))) | with_reducible refine Below.drew ?_ | with_reducible refine below_drewN ?_ _ | (with_reducible refine below_step (by assumption) ?side ?_; case side => (first | omega | (with_reducible exact Below.size (by assumption)) | (simp; done) | (simp; omega)))))).mono ?_)⟩
    rintro e w1 ⟨f, rfl, hb1, hf1, -⟩
    have hbw1 : Below w.heap.size w w1 := by (repeat first | with_reducible assumption | with_reducible exact Below.refl _ _ | (with_reducible refine Below.alloc ?_ ?side _; case side => (first | omega | (with_reducible exact Below.size (by assumption)) | (simp; done) | (simp; omega))) | (with_reducible refine Below.setCell ?_ ?side _; case side => (first | omega | (with_reducible exact Below.size (by assumption)) | (simp; done) | (simp; omega))) | with_reducible refine Below.drew ?_ | with_reducible refine below_drewN ?_ _ | (with_reducible refine below_step (by assumption) ?side ?_; case side => (first | omega | (with_reducible exact Below.size (by assumption)) | (simp; done) | (simp; omega))))
    have K0 := Lib.hid ((Blk.new (w.alloc (.cells #[.slice Ab nb cb, .int .i64 kf, .slice Ap np cp, .int .i64 wrg] 25)) 3 #[.int .i64 0]).below hb1 (by simp))
    simp only [World.size_alloc] at K0
    have c0 := K0.out.cell 0
    have f0 := K0.out.frozen 0
    clear hb1 hf1
    gi_wp2
    have d1 := World.cell?_setCell_same w1 ⟨w.heap.size + 1, 0, none⟩ (.int .i64 0) c0
    have zz := hbw1.size
    refine leave_marks (B := w.heap.size) (v := .tuple #[.int .i64 0, .int .i64 z]) [] _ (.nil _) (by simp) (fun W' ht => ?_) (fun W' ht => ⟨rfl, ht.below (Nat.le_refl _) (by simp; omega) (by (repeat first | with_reducible assumption | with_reducible exact Below.refl _ _ | (with_reducible refine Below.alloc ?_ ?side _; case side => (first | omega | (with_reducible exact Below.size (by assumption)) | (simp; done) | (simp; omega))) | (with_reducible refine Below.setCell ?_ ?side _; case side => (first | omega | (with_reducible exact Below.size (by assumption)) | (simp; done) | (simp; omega))) | with_reducible refine Below.drew ?_ | with_reducible refine below_drewN ?_ _ | (with_reducible refine below_step (by assumption) ?side ?_; case side => (first | omega | (with_reducible exact Below.size (by assumption)) | (simp; done) | (simp; omega)))))⟩)
    have d1' := ht.cell d1
    simp [results, Try.results17, go_sem, d1']

end Go.Proofs.Ytmopnbijfcamjaa
