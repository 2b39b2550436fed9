/- known of bars (layer 1): whether something is so in all truths, in none, or in some. -/
import Derived.BigRegionIn
import Derived.Shelf.RegionOpen
import Derived.Test.YtmopnbijfcamjaaMn1
namespace Go.Proofs.Ytmopnbijfcamjaa
open Go.RowKit
open Go.Sort (grow)
set_option linter.unusedVariables false

attribute [local go_sem] Oper.semAt_some
def knP {α : Type} (p : α → Bool) (L : List α) : Int := bif ((L.countP fun x => !p x) == 0) then 1 else bif (L.countP p == 0) then 2 else 3
set_option maxRecDepth 100000 in
set_option maxHeartbeats 3200000 in
theorem known_c (b1 b2 g : Nat) (cap : Array Value) (p : Sw → Bool) (Ab Ap : Option Addr) (nb cb np cp : Nat) (kf wrg : Int) (bs : List Br) (ms : List Pm) (ps : List Pc) (w : World) (ok : OkSt bs ps kf nb np) (hw : 0 ≤ wrg ∧ wrg ≤ 8) (HM : SwMem b1 b2 Ab Ap nb cb np cp kf wrg wrg bs ms ps w)
    (en0 : ∀ args w, (callFunc g args).run Try.prog w = .ok (.enter g args) w)
    (HF : ∀ b x W, SawM 0 b nb x W → x ∈ swA bs ps kf wrg → Below w.heap.size w W → Calls Try.prog g (#[.pointer (some ⟨b, 0, none⟩)] ++ cap) W fun e W' => e = .returned (.bool (p x)) ∧ Below W.heap.size W W') :
    Calls Try.prog 59 #[.func (.func 82) #[] #[.pointer (some ⟨b1, 0, none⟩), .pointer (some ⟨b2, 0, none⟩)], .func (.func g) #[] cap] w fun e w' => e = .returned (.int .i64 (knP p (swA bs ps kf wrg))) ∧ Below w.heap.size w w' := by
  have HMI := Lib.hid HM
  have HFI := Lib.hid HF
  have OK := Lib.hid ok
  have hle := swA_len (wr := wrg) ok
  obtain ⟨T, hT⟩ : ∃ T, swA bs ps kf wrg = T := ⟨_, rfl⟩
  rw [hT] at hle HFI
  have HT := Lib.hid hT
  have hl1 := HM.k1.lt
  have hl2 := HM.k2.lt
  rw [hT]
  clear HM HF ok hT
  refine (callsIn_wide (n := 6)).1 (callsIn_of_wp_marks Try.func59 rfl trivial ?_ rfl)
  simp only [Try.ntmps59, List.size_toArray, List.length_cons, List.length_nil, Nat.reduceAdd, Nat.reduceSub, Array.replicate_succ, Array.replicate_zero, List.push_toArray, List.append_toArray, List.nil_append, List.cons_append]
  gi_wp2_with fail
  obtain ⟨W1, hW1⟩ : ∃ W1, ((w.alloc (.cells #[.func (.func g) #[] cap] 83)).alloc (.cells #[.int .i64 0] 3)).alloc (.cells #[.int .i64 0] 3) = W1 := ⟨_, rfl⟩
  rw [hW1]
  have hbw1 : Below w.heap.size w W1 := by rw [← hW1]; (repeat first | with_reducible assumption | with_reducible exact Below.refl _ _ | (with_reducible refine Below.alloc ?_ ?side _; case side => (first | omega | (with_reducible exact Below.size (by assumption)) | (simp; done) | (simp; omega))) | (with_reducible refine Below.setCell ?_ ?side _; case side => (first | omega | (with_reducible exact Below.size (by assumption)) | (simp; done) | (simp; omega))) | with_reducible refine Below.drew ?_ | with_reducible refine below_drewN ?_ _ | (with_reducible refine below_step (by assumption) ?side ?_; case side => (first | omega | (with_reducible exact Below.size (by assumption)) | (simp; done) | (simp; omega))))
  have zs1 : W1.heap.size = w.heap.size + 3 := by rw [← hW1]; simp
  have K0 := Lib.hid (by rw [← hW1]; exact ((Blk.new w _ _).alloc _).alloc _ : Blk W1 w.heap.size 83 #[.func (.func g) #[] cap])
  have K1 := Lib.hid (by
    rw [← hW1]
    have h := ((Blk.new (w.alloc (.cells #[.func (.func g) #[] cap] 83)) 3 #[.int .i64 0]).alloc (.cells #[.int .i64 0] 3))
    rw [World.size_alloc] at h
    exact h : Blk W1 (w.heap.size + 1) 3 #[.int .i64 0])
  have K2 := Lib.hid (by
    rw [← hW1]
    have h := Blk.new ((w.alloc (.cells #[.func (.func g) #[] cap] 83)).alloc (.cells #[.int .i64 0] 3)) 3 #[.int .i64 0]
    simp only [World.size_alloc] at h
    exact h : Blk W1 (w.heap.size + 1 + 1) 3 #[.int .i64 0])
  have R0 := Lib.hid ((RgB.of HMI.out (Below.refl _ _)).later hbw1)
  clear hW1
  have en := enters_of Try.func82 (by kernel_rfl) rfl
  refine wpIn_rangeS (gf := 82) (fst := #[]) (lb := #[.pointer (some ⟨b1, 0, none⟩), .pointer (some ⟨b2, 0, none⟩)]) rfl en (sawings1_c b1 b2 Ab Ap nb cb np cp kf wrg wrg bs ms ps OK.out hw) rfl
    (fun b k W => RgB w b1 b2 Ab Ap nb cb np cp kf wrg wrg W ∧ Blk W w.heap.size 83 #[.func (.func g) #[] cap] ∧ Blk W (w.heap.size + 1) 3 #[.int .i64 (cntL p T k)] ∧ Blk W (w.heap.size + 1 + 1) 3 #[.int .i64 (cntL (fun x => !p x) T k)])
    (fun c W => False) ?hI ?hIx ?hmem ?h0 ?hround ?hdone ?hstop
  case hI =>
    rintro b k W W' hb ⟨a1, a2, a3, a4⟩ ht
    exact ⟨a1.tameB ht (by omega) (by omega) (by omega) (by omega), ht.blk a2 (by omega), ht.blk a3 (by omega), ht.blk a4 (by omega)⟩
  case hIx => exact fun c W W' h => h.elim
  case hmem => exact fun b k W hb h => h.1.mem HMI.out.st.1 HMI.out.st.2
  case h0 => exact fun b W hb h => ⟨R0.out.later h, K0.out.below h K0.out.lt, by rw [cntL_0]; exact K1.out.below h K1.out.lt, by rw [cntL_0]; exact K2.out.below h K2.out.lt⟩
  case hround =>
    rintro l b k x W hl hb hx ⟨a1, a2, a3, a4⟩ hat
    rw [HT.out] at hx
    have hkN : k < T.length := (List.getElem?_eq_some_iff.1 hx).1
    have HS := Lib.hid (cntL_succ (p := p) hx)
    have HS' := Lib.hid (cntL_succ (p := fun x => !p x) hx)
    have hn1 := cntL_le p T k
    have hn2 := cntL_le (fun x => !p x) T k
    have hxT : x ∈ T := List.mem_of_getElem? hx
    obtain ⟨m1, hm1⟩ : ∃ m, cntL p T k = m := ⟨_, rfl⟩
    obtain ⟨m2, hm2⟩ : ∃ m, cntL (fun x => !p x) T k = m := ⟨_, rfl⟩
    rw [hm1] at a3 HS hn1
    rw [hm2] at a4 HS' hn2
    have A1 := Lib.hid a1
    have A2 := Lib.hid a2
    have A3 := Lib.hid a3
    have A4 := Lib.hid a4
    have AT := Lib.hid hat
    clear a1 a2 a3 a4 hat hx hm1 hm2
    gi_wp2
    refine ⟨KeepsFrom.refl _ _, KeepC.refl _ _, fun W2 ht => ?_⟩
    have B1 := Lib.hid (A1.out.tame ht (by omega))
    have B2 := Lib.hid (A2.out.tame ht)
    have B3 := Lib.hid (A3.out.tame ht)
    have B4 := Lib.hid (A4.out.tame ht)
    have hcl := HFI.out b x W2 ((AT.out.tame ht).less (Nat.zero_le _)) hxT B1.out.bw
    have c0 := B2.out.cell 0
    have z2 := B1.out.bw.size
    have zt := ht.size
    have w1 : IntKind.i64.wrap ((m1 : Int) + 1) = ((m1 + 1 : Nat) : Int) := by rw [IntWalk.i64_in _ (by omega)]; omega
    have w2 : IntKind.i64.wrap ((m2 : Int) + 1) = ((m2 + 1 : Nat) : Int) := by rw [IntWalk.i64_in _ (by omega)]; omega
    have lt0 := B4.out.lt
    clear ht
    cases hp : p x
    · rw [hp] at hcl HS HS'
      replace hcl := Lib.hid hcl
      gi_wp2_with fail
      refine ⟨trivial, CallsIn.inRound l (callsIn_wide.2 (hcl.out.mono ?_))⟩
      rintro e w5 ⟨rfl, hb5⟩
      have C1 := Lib.hid (B1.out.later hb5)
      have C2 := Lib.hid (B2.out.below hb5 B2.out.lt)
      have C3 := Lib.hid (B3.out.below hb5 B3.out.lt)
      have C4 := Lib.hid (B4.out.below hb5 B4.out.lt)
      have z5 := hb5.size
      have c1 := C3.out.cell 0
      have c2 := C4.out.cell 0
      have f1 := C3.out.frozen 0
      have f2 := C4.out.frozen 0
      have d1 := C1.out.bw.size
      clear c0
      gi_wp2
      exact ⟨by (repeat first | with_reducible assumption | with_reducible exact KeepsFrom.refl _ _ | with_reducible refine keeps_setCell ?_ _ _ | with_reducible refine keeps_alloc ?_ _ | with_reducible refine keeps_drew ?_ | with_reducible refine keeps_drewN ?_ _ | with_reducible refine keeps_step (by assumption) (Nat.le_refl _) ?_), (KeepC.of_below hb5).trans (.set (by show w.heap.size + 1 + 1 < _; omega) _), C1.out.set (by show w.heap.size ≤ w.heap.size + 1 + 1; omega) (by show b1 ≠ w.heap.size + 1 + 1; omega) (by show b2 ≠ w.heap.size + 1 + 1; omega) _, C2.out.far (by show w.heap.size ≠ w.heap.size + 1 + 1; omega) _, by rw [HS.out]; exact C3.out.far (by show w.heap.size + 1 ≠ w.heap.size + 1 + 1; omega) _, by rw [HS'.out]; simpa using C4.out.set_ 0 (.int .i64 ((m2 + 1 : Nat) : Int))⟩
    · rw [hp] at hcl HS HS'
      replace hcl := Lib.hid hcl
      gi_wp2_with fail
      refine ⟨trivial, CallsIn.inRound l (callsIn_wide.2 (hcl.out.mono ?_))⟩
      rintro e w5 ⟨rfl, hb5⟩
      have C1 := Lib.hid (B1.out.later hb5)
      have C2 := Lib.hid (B2.out.below hb5 B2.out.lt)
      have C3 := Lib.hid (B3.out.below hb5 B3.out.lt)
      have C4 := Lib.hid (B4.out.below hb5 B4.out.lt)
      have z5 := hb5.size
      have c1 := C3.out.cell 0
      have c2 := C4.out.cell 0
      have f1 := C3.out.frozen 0
      have f2 := C4.out.frozen 0
      have d1 := C1.out.bw.size
      clear c0
      gi_wp2
      exact ⟨by (repeat first | with_reducible assumption | with_reducible exact KeepsFrom.refl _ _ | with_reducible refine keeps_setCell ?_ _ _ | with_reducible refine keeps_alloc ?_ _ | with_reducible refine keeps_drew ?_ | with_reducible refine keeps_drewN ?_ _ | with_reducible refine keeps_step (by assumption) (Nat.le_refl _) ?_), (KeepC.of_below hb5).trans (.set (by show w.heap.size + 1 < _; omega) _), C1.out.set (by show w.heap.size ≤ w.heap.size + 1; omega) (by show b1 ≠ w.heap.size + 1; omega) (by show b2 ≠ w.heap.size + 1; omega) _, C2.out.far (by show w.heap.size ≠ w.heap.size + 1; omega) _, by rw [HS.out]; simpa using C3.out.set_ 0 (.int .i64 ((m1 + 1 : Nat) : Int)), by rw [HS'.out]; exact C4.out.far (by show w.heap.size + 1 + 1 ≠ w.heap.size + 1; omega) _⟩
  case hdone =>
    rintro D b W hD hb ⟨a1, a2, a3, a4⟩ hK
    rw [HT.out, cntL_all] at a3 a4
    have c1 := a3.cell 0
    have c2 := a4.cell 0
    have zz := a1.bw.size
    have hbw := a1.bw
    have hkn : Hid (knP p T = bif ((T.countP fun x => !p x) == 0) then 1 else bif (T.countP p == 0) then 2 else 3) := rfl
    obtain ⟨n1, hn1⟩ : ∃ n, T.countP p = n := ⟨_, rfl⟩
    obtain ⟨n2, hn2⟩ : ∃ n, (T.countP fun x => !p x) = n := ⟨_, rfl⟩
    rw [hn1] at c1 hkn
    rw [hn2] at c2 hkn
    clear a1 a2 a3 a4 hn1 hn2
    by_cases e2 : n2 = 0
    · have HR : Hid (knP p T = 1) := by show _ = _; rw [hkn.out, e2]; rfl
      have e2B : ((n2 : Int) == 0) = true := by rw [e2]; rfl
      replace e2 := Lib.hid e2
      gi_wp2
      refine leave_mark (v := .int .i64 1) hK (fun W' ht => ?_) (fun W' ht => ⟨by rw [HR.out], ht.below (by omega) (by omega) (by (repeat first | with_reducible assumption | with_reducible exact Below.refl _ _ | (with_reducible refine Below.alloc ?_ ?side _; case side => (first | omega | (with_reducible exact Below.size (by assumption)) | (simp; done) | (simp; omega))) | (with_reducible refine Below.setCell ?_ ?side _; case side => (first | omega | (with_reducible exact Below.size (by assumption)) | (simp; done) | (simp; omega))) | with_reducible refine Below.drew ?_ | with_reducible refine below_drewN ?_ _ | (with_reducible refine below_step (by assumption) ?side ?_; case side => (first | omega | (with_reducible exact Below.size (by assumption)) | (simp; done) | (simp; omega)))))⟩)
      simp [results, Try.results59, go_sem]
    · have e2B : ((n2 : Int) == 0) = false := by simp; omega
      have e2N : (n2 == 0) = false := by simp; omega
      rw [e2N] at hkn
      by_cases e1 : n1 = 0
      · have HR : Hid (knP p T = 2) := by show _ = _; rw [hkn.out, e1]; rfl
        have e1B : ((n1 : Int) == 0) = true := by rw [e1]; rfl
        replace e1 := Lib.hid e1
        gi_wp2
        refine leave_mark (v := .int .i64 2) hK (fun W' ht => ?_) (fun W' ht => ⟨by rw [HR.out], ht.below (by omega) (by omega) (by (repeat first | with_reducible assumption | with_reducible exact Below.refl _ _ | (with_reducible refine Below.alloc ?_ ?side _; case side => (first | omega | (with_reducible exact Below.size (by assumption)) | (simp; done) | (simp; omega))) | (with_reducible refine Below.setCell ?_ ?side _; case side => (first | omega | (with_reducible exact Below.size (by assumption)) | (simp; done) | (simp; omega))) | with_reducible refine Below.drew ?_ | with_reducible refine below_drewN ?_ _ | (with_reducible refine below_step (by assumption) ?side ?_; case side => (first | omega | (with_reducible exact Below.size (by assumption)) | (simp; done) | (simp; omega)))))⟩)
        simp [results, Try.results59, go_sem]
      · have e1B : ((n1 : Int) == 0) = false := by simp; omega
        have e1N : (n1 == 0) = false := by simp; omega
        have HR : Hid (knP p T = 3) := by show _ = _; rw [hkn.out, e1N]; rfl
        gi_wp2
        refine leave_mark (v := .int .i64 3) hK (fun W' ht => ?_) (fun W' ht => ⟨by rw [HR.out], ht.below (by omega) (by omega) (by (repeat first | with_reducible assumption | with_reducible exact Below.refl _ _ | (with_reducible refine Below.alloc ?_ ?side _; case side => (first | omega | (with_reducible exact Below.size (by assumption)) | (simp; done) | (simp; omega))) | (with_reducible refine Below.setCell ?_ ?side _; case side => (first | omega | (with_reducible exact Below.size (by assumption)) | (simp; done) | (simp; omega))) | with_reducible refine Below.drew ?_ | with_reducible refine below_drewN ?_ _ | (with_reducible refine below_step (by assumption) ?side ?_; case side => (first | omega | (with_reducible exact Below.size (by assumption)) | (simp; done) | (simp; omega)))))⟩)
        simp [results, Try.results59, go_sem]
  case hstop => exact fun D c W hD h => h.elim

end Go.Proofs.Ytmopnbijfcamjaa
