/- truths (layer 3): all truths, handed to a function. -/
import Derived.Test.YtcinhibmohkeiaaQy30
import Derived.BigRegionIn
import Derived.Shelf.RegionOpen
namespace Go.Proofs.Ytcinhibmohkeiaa
open Go.RowKit
open Go.Sort (grow)
set_option linter.unusedVariables false
set_option linter.unusedSimpArgs false

attribute [local go_sem] Oper.semAt_some
/-- how many of the first k pass -/
def cnt3 (wrg : Int) (xs : List (St3 × Nat)) (k : Nat) : Nat := ((xs.take k).filter fun x => decide ((x.2 : Int) ≤ wrg)).length
theorem cnt3_yes {wrg : Int} {xs : List (St3 × Nat)} {k : Nat} {x : St3 × Nat} (h : xs[k]? = some x) (hx : (x.2 : Int) ≤ wrg) : cnt3 wrg xs (k + 1) = cnt3 wrg xs k + 1 ∧ ((xs.filter fun x => decide ((x.2 : Int) ≤ wrg)).map fun x => x.1)[cnt3 wrg xs k]? = some x.1 := by
  have hl := (List.getElem?_eq_some_iff.1 h).1
  have e : xs.filter (fun x => decide ((x.2 : Int) ≤ wrg)) = (xs.take k).filter (fun x => decide ((x.2 : Int) ≤ wrg)) ++ x :: (xs.drop (k + 1)).filter (fun x => decide ((x.2 : Int) ≤ wrg)) := by
    have h1 := (List.getElem?_eq_some_iff.1 h).2
    have h2 := List.drop_eq_getElem_cons hl
    rw [h1] at h2
    conv => lhs; rw [← List.take_append_drop k xs, h2, List.filter_append]
    rw [List.filter_cons_of_pos (by simpa using hx)]
  unfold cnt3
  constructor
  · rw [List.take_add_one, h, List.filter_append, List.length_append]
    simp [hx]
  · rw [e, List.map_append, List.getElem?_append_right (by simp)]
    simp
theorem cnt3_no {wrg : Int} {xs : List (St3 × Nat)} {k : Nat} {x : St3 × Nat} (h : xs[k]? = some x) (hx : ¬ (x.2 : Int) ≤ wrg) : cnt3 wrg xs (k + 1) = cnt3 wrg xs k := by
  unfold cnt3
  rw [List.take_add_one, h, List.filter_append, List.length_append]
  simp [hx]
set_option maxRecDepth 100000 in
set_option maxHeartbeats 1600000 in
theorem truths_c (gm : Nat) (Al : Option Addr) (nl cl : Nat) (wa l0 l1 : Int) (Ab : Option Addr) (nb cb : Nat) (wrg ab : Int) (lv : List Lv) (bl : List Bal) (ok : OkM nl nb wa l0 l1 wrg ab lv bl) :
    IterO Try.prog 37 #[.pointer (some ⟨gm, 0, none⟩)] #[] (MemM gm 95 Al nl cl wa l0 l1 Ab nb cb wrg ab lv bl) (trS lv l0 l1 wa ab wrg bl) (fun _ _ x args _ => args = #[enc3 x]) := by
  intro l J Jx W hM hS hX hY h0
  have HIT := Lib.hid (all_c gm Al nl cl wa l0 l1 Ab nb cb wrg ab lv bl ok)
  obtain ⟨xs, hxs⟩ : ∃ xs, alS lv l0 l1 wa ab bl = xs := ⟨_, rfl⟩
  obtain ⟨ys, hys⟩ : ∃ ys, trS lv l0 l1 wa ab wrg bl = ys := ⟨_, rfl⟩
  have hyx : ys = (xs.filter fun x => decide ((x.2 : Int) ≤ wrg)).map fun x => x.1 := by rw [← hys, ← hxs]; rfl
  have hlen : cnt3 wrg xs xs.length = ys.length := by rw [hyx]; unfold cnt3; rw [List.take_length, List.length_map]
  rw [hxs] at HIT
  rw [hys] at hY ⊢
  have M0 := hM _ _ _ _ h0
  have lt0 := M0.blk.lt
  have HM := Lib.hid hM
  have HS := Lib.hid hS
  have HX := Lib.hid hX
  have HY := Lib.hid hY
  have H0 := Lib.hid h0
  have HYX := Lib.hid hyx
  have HLEN := Lib.hid hlen
  clear hM hS hX hY h0 hxs hys hyx hlen M0
  show Calls Try.prog 37 #[.pointer (some ⟨gm, 0, none⟩), .func (.yield l) #[] #[]] W _
  refine (callsIn_wide (n := 6)).1 (callsIn_of_wp_marks Try.func37 rfl trivial ?_ rfl)
  simp only [Try.ntmps37, List.size_toArray, List.length_cons, List.length_nil, Nat.reduceAdd, Nat.reduceSub, Array.replicate_succ, Array.replicate_zero, List.push_toArray, List.append_toArray, List.nil_append, List.cons_append]
  gi_wp2
  obtain ⟨X, hX⟩ : ∃ X, (W.alloc (.cells #[.pointer (some ⟨gm, 0, none⟩)] 82)).alloc (.cells #[.func (.yield l) #[] #[]] 113) = X := ⟨_, rfl⟩
  rw [hX]
  have BX : Below W.heap.size W X := (al2 hX).1
  have zX : X.heap.size = W.heap.size + 2 := (al2 hX).2
  have B2 : Hid (Blk X W.heap.size 82 #[.pointer (some ⟨gm, 0, none⟩)]) := by rw [← hX]; exact (Blk.new W _ _).alloc _
  have B3 : Hid (Blk X (W.heap.size + 1) 113 #[.func (.yield l) #[] #[]]) := by
    rw [← hX]
    have := Blk.new (W.alloc (.cells #[.pointer (some ⟨gm, 0, none⟩)] 82)) 113 #[.func (.yield l) #[] #[]]
    rw [World.size_alloc] at this
    exact this
  clear hX
  have en := enters_of Try.func57 (by kernel_rfl) rfl
  refine wpIn_rangeO (gf := 57) (fst := #[.pointer (some ⟨gm, 0, none⟩)]) (lb := #[]) rfl en HIT.out (fun K O x args W h => by rw [h]; rfl)
    (fun K O k W1 => (∀ b, O b → K b) ∧ J (KS W.heap.size (X.heap.size + 2) K) (OS X.heap.size O) (cnt3 wrg xs k) W1 ∧ Blk W1 W.heap.size 82 #[.pointer (some ⟨gm, 0, none⟩)] ∧ Blk W1 (W.heap.size + 1) 113 #[.func (.yield l) #[] #[]])
    (fun c W1 => c = .ret ∧ Jx W1) ?hI ?hIt ?hIx ?hmem ?h0 ?hround ?hdone ?hstop
  case hI =>
    rintro K O K' O' k W1 W2 hK ⟨hO, hJ, k2, k3⟩ hst
    have hn : ∀ b, b < X.heap.size + 2 → ¬ O b := fun b hb e => by have := hK b (hO b e); omega
    exact ⟨hst.inO, HS.out _ _ _ _ _ _ _ (ks_ge hK (by omega)) hJ (hst.wide (by omega) rfl), hst.blk k2 (hn _ (by omega)), hst.blk k3 (hn _ (by omega))⟩
  case hIt =>
    rintro K O k W1 W2 hK hs ⟨hO, hJ, k2, k3⟩ ht
    exact ⟨hO, HS.out _ _ _ _ _ _ _ (ks_ge hK (by omega)) hJ (ht.stp (.inr (.inl rfl)) (.inr (.inr rfl)) (os_ks hO (by omega) rfl)), ht.blk k2 (by omega), ht.blk k3 (by omega)⟩
  case hIx =>
    rintro c W1 W2 ⟨rfl, hx⟩ hb
    exact ⟨rfl, HX.out _ _ hx (hb.mono (by omega))⟩
  case hmem => exact fun K O k W1 h => HM.out _ _ _ _ h.2.1
  case h0 =>
    intro W1 hb hz
    refine ⟨fun b h => h, HS.out _ _ _ _ 0 W W1 (fun b h => h.elim) H0.out ?_, B2.out.below hb (by omega), B3.out.below hb (by omega)⟩
    have hb1 : Below W.heap.size W W1 := BX.trans (hb.mono (by omega))
    exact ⟨hb1.os, hb1.tape, hb1.output, hb1.size, fun b h => h.elim, fun b h => .inr (by rcases h with h | h; exact h.elim; exact ⟨h.1, by omega⟩), fun b h => .inr (by rcases h with h | h | h; exact h.elim; omega; omega), os_ks (fun b h => h) (by omega) rfl, fun j hj _ => hb1.block j hj⟩
  case hround =>
    rintro K O k x args W1 hK hO hs hx ⟨-, hJ, k2, k3⟩ rfl
    have HXX := Lib.hid hx
    have HJ := Lib.hid hJ
    have K2 := Lib.hid k2
    have K3 := Lib.hid k3
    have zl : W.heap.size + 1 < X.heap.size := by omega
    have zl2 : W.heap.size + 1 < W1.heap.size := by omega
    have ZX := Lib.hid zX
    clear hx hJ k2 k3 zX
    obtain ⟨⟨s0, s1, s2, lk, bw⟩, n⟩ := x
    simp only [encP, enc3]
    gi_wp2
    refine ⟨.of_below (by (repeat first | with_reducible assumption | with_reducible exact Below.refl _ _ | (with_reducible refine Below.alloc ?_ ?side _; case side => (first | omega | (with_reducible exact Below.size (by assumption)) | (simp; done) | (simp; omega))) | (with_reducible refine Below.setCell ?_ ?side _; case side => (first | omega | (with_reducible exact Below.size (by assumption)) | (simp; done) | (simp; omega))) | with_reducible refine Below.drew ?_ | with_reducible refine below_drewN ?_ _ | (with_reducible refine below_step (by assumption) ?side ?_; case side => (first | omega | (with_reducible exact Below.size (by assumption)) | (simp; done) | (simp; omega))))) (by omega), .of_below (by (repeat first | with_reducible assumption | with_reducible exact Below.refl _ _ | (with_reducible refine Below.alloc ?_ ?side _; case side => (first | omega | (with_reducible exact Below.size (by assumption)) | (simp; done) | (simp; omega))) | (with_reducible refine Below.setCell ?_ ?side _; case side => (first | omega | (with_reducible exact Below.size (by assumption)) | (simp; done) | (simp; omega))) | with_reducible refine Below.drew ?_ | with_reducible refine below_drewN ?_ _ | (with_reducible refine below_step (by assumption) ?side ?_; case side => (first | omega | (with_reducible exact Below.size (by assumption)) | (simp; done) | (simp; omega))))), fun W2 ht => ?_⟩
    have hbb : Below W1.heap.size W1 (W1.alloc (.cells #[.int .i64 s0, .int .i64 s1, .int .i64 s2, .int .i64 lk, .int .i64 bw] 92)) := by (repeat first | with_reducible assumption | with_reducible exact Below.refl _ _ | (with_reducible refine Below.alloc ?_ ?side _; case side => (first | omega | (with_reducible exact Below.size (by assumption)) | (simp; done) | (simp; omega))) | (with_reducible refine Below.setCell ?_ ?side _; case side => (first | omega | (with_reducible exact Below.size (by assumption)) | (simp; done) | (simp; omega))) | with_reducible refine Below.drew ?_ | with_reducible refine below_drewN ?_ _ | (with_reducible refine below_step (by assumption) ?side ?_; case side => (first | omega | (with_reducible exact Below.size (by assumption)) | (simp; done) | (simp; omega))))
    have q4 : Hid (Blk W2 W1.heap.size 92 #[.int .i64 s0, .int .i64 s1, .int .i64 s2, .int .i64 lk, .int .i64 bw]) := Lib.hid (ht.blk (Blk.new W1 _ _) (by omega))
    have hks := ks_ge (n := W.heap.size) hK (by omega)
    have hos := os_ks (n := W.heap.size) (B := X.heap.size) hO (by omega) rfl
    have J2 : Hid (J (KS W.heap.size (X.heap.size + 2) K) (OS X.heap.size O) (cnt3 wrg xs k) W2) := by
      refine Lib.hid (HS.out _ _ _ _ _ _ _ hks HJ.out ((Stp.below0 hbb hos).trans ?_))
      exact ht.stp (.inr (.inl rfl)) (.inr (.inr rfl)) hos
    have K22 := Lib.hid (ht.blk (K2.out.below hbb K2.out.lt) (by omega))
    have K32 := Lib.hid (ht.blk (K3.out.below hbb K3.out.lt) (by omega))
    have M2 := HM.out _ _ _ _ J2.out
    have c5 := M2.blk.cell
    have ltm := M2.blk.lt
    have c2 := K22.out.cell
    have c3 := K32.out.cell
    have c4 := q4.out.cell
    have l2 := K22.out.lt
    have l3 := K32.out.lt
    have l4 := q4.out.lt
    have z2 : X.heap.size + 1 < W2.heap.size := by have := ht.size; simp at this; omega
    clear M2 ht hbb K2 K3 HJ
    by_cases hn : (n : Int) ≤ wrg
    · have hnB : decide ((n : Int) ≤ wrg) = true := decide_eq_true hn
      obtain ⟨hc, hg⟩ := cnt3_yes HXX.out hn
      obtain ⟨fn, tmps, assign, body, hy, hR⟩ := HY.out _ _ (cnt3 wrg xs k) _ _ W2 hks hos (by rw [HYX.out]; exact hg) J2.out rfl
      rw [← hc] at hR
      unfold enc3 at hy
      simp only at hy
      clear hc hg
      gi_wp2
      refine roundIn_inRound _ ((hR _).mono ?_)
      rintro e W4 (⟨rfl, hJ4, hK4⟩ | ⟨rfl, hJ4, hK4⟩)
      · have HL4 := Lib.hid (KeepL.of_kp (B := X.heap.size) hK4 (.inr ⟨by omega, by omega⟩) (.inr ⟨by omega, by omega⟩) z2)
        have HR4 := Lib.hid (And.intro hJ4 (hK4.mono (fun b (h : K b) => (Or.inl h : KS W.heap.size (X.heap.size + 2) K b))))
        have HB2 := Lib.hid (hK4.blk K22.out (.inr ⟨Nat.le_refl _, by omega⟩))
        have HB3 := Lib.hid (hK4.blk K32.out (.inr ⟨by omega, by omega⟩))
        clear hJ4 hK4 hy hR
        gi_wp2
        exact ⟨HL4.out, HR4.out.2, hO, HR4.out.1, HB2.out, HB3.out⟩
      · have HL4 := Lib.hid (KeepL.of_kp (B := X.heap.size) hK4 (.inr ⟨by omega, by omega⟩) (.inr ⟨by omega, by omega⟩) z2)
        have HR4 := Lib.hid (And.intro hJ4 (hK4.mono (fun b (h : K b) => (Or.inl h : KS W.heap.size (X.heap.size + 2) K b))))
        clear hJ4 hK4 hy hR
        gi_wp2
        exact ⟨HL4.out, HR4.out.2, rfl, HR4.out.1⟩
    · have hnB : decide ((n : Int) ≤ wrg) = false := decide_eq_false hn
      have hc := Lib.hid (cnt3_no HXX.out hn)
      gi_wp2
      refine ⟨fun f h => (by cases h), ?_⟩
      gi_wp2
      exact ⟨KeepL.refl, KpO.refl, hO, by rw [hc.out]; exact J2.out, K22.out, K32.out⟩
  case hdone =>
    rintro K O W1 hK hs ⟨hO, hJ, k2, k3⟩ hD
    have HJ := Lib.hid hJ
    have zl : W.heap.size + 1 < X.heap.size := by omega
    have ZX := Lib.hid zX
    clear hJ k2 k3 zX
    gi_wp2
    refine leave_turn (v := .tuple #[]) hD (fun W' ht => results_none rfl _ _ _) (fun W' ht => ⟨⟨_, rfl⟩, .inl ⟨KS W.heap.size (X.heap.size + 2) K, OS X.heap.size O, ks_ge hK (by omega), ?_⟩⟩)
    rw [← HLEN.out]
    exact HS.out _ _ _ _ _ _ _ (ks_ge hK (by omega)) HJ.out (ht.stp (.inr (.inl rfl)) (.inr (.inr rfl)) (os_ks hO (by omega) rfl))
  case hstop =>
    rintro c W1 ⟨rfl, hx⟩ hD
    have zl : W.heap.size + 1 < X.heap.size := by omega
    clear zX
    gi_wp2
    refine leave_turn (v := .tuple #[]) hD (fun W' ht => results_none rfl _ _ _) (fun W' ht => ⟨⟨_, rfl⟩, .inr (HX.out _ _ hx ((ht.to_below (by have := (Array.getElem?_eq_some_iff.1 hD).1; omega)).mono (by omega)))⟩)

end Go.Proofs.Ytcinhibmohkeiaa
