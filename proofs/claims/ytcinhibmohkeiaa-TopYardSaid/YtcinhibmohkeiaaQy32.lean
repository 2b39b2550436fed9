/- open of levers (layer 3): a machine at work that has a truth. -/
import Derived.Test.YtcinhibmohkeiaaQy13
import Derived.Test.YtcinhibmohkeiaaQy31
import Derived.BigRegionIn
import Derived.Shelf.RegionOpen
namespace Go.Proofs.Ytcinhibmohkeiaa
open Go.RowKit
open Go.Sort (grow)
set_option linter.unusedVariables false
set_option linter.unusedSimpArgs false

attribute [local go_sem] Oper.semAt_some
theorem okM_of {nl nb : Nat} {wa l0 l1 wrg : Int} {lv : List Lv} {bl : List Bal} (h : ckM nl nb wa l0 l1 wrg lv bl = true) (hl : lv.length = nl) (hb : bl.length = nb) :
    OkM nl nb wa l0 l1 wrg (abK lv nl) lv bl ∧ ∀ k, k < lv.length → 1 ≤ (lvAt lv k).lg ∧ (lvAt lv k).lg ≤ 1000 := by
  simp only [ckM, Bool.and_eq_true, Bool.not_eq_true', decide_eq_false_iff_not, allN_iff, wn_true] at h
  obtain ⟨h1, h2, h3, h4, h5, h6, h7, h8⟩ := h
  have hlv : ∀ k, k < nl → (1 ≤ (lvAt lv k).lg ∧ (lvAt lv k).lg ≤ 1000) ∧ 1 ≤ (lvAt lv k).lo ∧ (lvAt lv k).lo ≤ (lvAt lv k).hi ∧ (lvAt lv k).hi ≤ 1000 := fun k hk => by
    have := h2 k hk
    simp only [ckLv, Bool.and_eq_true, Bool.not_eq_true', decide_eq_false_iff_not, wn_true] at this
    exact ⟨this.1, this.2.1.1, this.2.1.2, by omega⟩
  have hlg : ∀ k, k < lv.length → 1 ≤ (lvAt lv k).lg ∧ (lvAt lv k).lg ≤ 1000 := fun k hk => (hlv k (by omega)).1
  have hbd := abK_bd (by omega) hlg nl (by omega)
  have hp : (1000 : Int) ^ nl ≤ 1000000000 := by
    match nl, (show nl ≤ 3 by omega) with
    | 0, _ => decide
    | 1, _ => decide
    | 2, _ => decide
    | 3, _ => decide
  refine ⟨⟨by omega, by omega, hl, hb, h3, ⟨h4.1, h4.2, by omega⟩, h8, ⟨hbd.1, by omega⟩, fun k hk => (hlv k hk).2, fun k hk => ?_⟩, hlg⟩
  have := h7 k hk
  simp only [ckBa, ask3, Bool.and_eq_true, wn_true] at this
  exact ⟨this.1.1.1, this.1.1.2, this.1.2, this.2⟩
/-- which error -/
def opE (nl nb : Nat) (wa l0 l1 wrg : Int) (lv : List Lv) (bl : List Bal) (is : Bool) : Int :=
  bif ckM nl nb wa l0 l1 wrg lv bl then (bif is then (bif (trS lv l0 l1 wa (abK lv nl) wrg bl).isEmpty then 3 else 0) else 1) else 30
def OpPost (Al : Option Addr) (nl cl : Nat) (wa l0 l1 : Int) (Ab : Option Addr) (nb cb : Nat) (wrg : Int) (lv : List Lv) (bl : List Bal) (z : Int) (w : World) (e : Ending) (w' : World) : Prop :=
  Below w.heap.size w w' ∧ ((z ≠ 0 ∧ e = .returned (.tuple #[.pointer none, .int .i64 z])) ∨ (z = 0 ∧ ∃ gm, e = .returned (.tuple #[.pointer (some ⟨gm, 0, none⟩), .int .i64 0]) ∧ w.heap.size ≤ gm ∧ MemM gm 95 Al nl cl wa l0 l1 Ab nb cb wrg (abK lv nl) lv bl w'))
set_option maxRecDepth 100000 in
set_option maxHeartbeats 3200000 in
theorem open_c (Al : Option Addr) (nl cl : Nat) (wa l0 l1 : Int) (Ab : Option Addr) (nb cb : Nat) (wrg : Int) (lv : List Lv) (bl : List Bal) (is : Bool) (w : World) (hn : nl ≤ 40) (hnb : nb ≤ 40) (HL : LvsAt w Al nl lv) (HB : BasAt w Ab nb bl) :
    Calls Try.prog 36 #[.agg #[.slice Al nl cl, .int .i64 wa, .int .i64 l0, .int .i64 l1, .slice Ab nb cb, .int .i64 wrg], .bool is] w (OpPost Al nl cl wa l0 l1 Ab nb cb wrg lv bl (opE nl nb wa l0 l1 wrg lv bl is) w) := by
  have hck := fun V (hV : Below w.heap.size w V) => check3_c Al nl cl wa l0 l1 Ab nb cb wrg lv bl V hn hnb (HL.later hV) (HB.later hV)
  have HLI := Lib.hid HL
  have HBI := Lib.hid HB
  have hl := HL.1
  have hb := HB.1
  unfold opE
  clear HL HB
  cases ek : ckM nl nb wa l0 l1 wrg lv bl
  · rw [ek, show erM false = 30 from rfl] at hck
    replace hck := Lib.hid hck
    clear ek hl hb
    go_enter Try.func36, Try.ntmps36
    go_wp2_with (go_at_call 22; refine (hck.out _ (by (repeat first | with_reducible assumption | with_reducible exact Below.refl _ _ | (with_reducible refine Below.alloc ?_ ?side _; case side => (first | omega | (with_reducible exact Below.size (by assumption)) | (simp; done) | (simp; omega))) | (with_reducible refine Below.setCell ?_ ?side _; case side => (first | omega | (with_reducible exact Below.size (by assumption)) | (simp; done) | (simp; omega))) | with_reducible refine Below.drew ?_ | with_reducible refine below_drewN ?_ _ | (with_reducible refine below_step (by assumption) ?side ?_; case side => (first | omega | (with_reducible exact Below.size (by assumption)) | (simp; done) | (simp; omega)))))).mono ?_; (rintro e w1 ⟨rfl, hb1⟩; obtain ⟨hc1, hf1⟩ := bcell hb1; have zs1 := hb1.size; (try simp at zs1); have n1_0 : w.heap.size < w1.heap.size := (by omega); have n1_1 : w.heap.size + 1 < w1.heap.size := (by omega); have n1_2 : w.heap.size + 2 < w1.heap.size := (by omega)))
    have p1 : w1.cell? ⟨w.heap.size + 1, 0, none⟩ = some (.pointer none) := (hc1 _ 0 (by first | omega | (simp; done) | (simp; omega))).trans ((al3_1 rfl).2.1 0)
    have p2 : w1.cell? ⟨w.heap.size + 1 + 1, 0, none⟩ = some (.int .i64 0) := (hc1 _ 0 (by first | omega | (simp; done) | (simp; omega))).trans ((al3_2 rfl).2.1 0)
    obtain ⟨c1, c2⟩ := two_cells (u := .pointer none) (v := .int .i64 30) (by simp) p1 p2
    exact bodyPost_ret (v := .tuple #[.pointer none, .int .i64 30]) (by simp [results, Try.results36, go_sem, c1, c2]) rfl ⟨by (repeat first | with_reducible assumption | with_reducible exact Below.refl _ _ | (with_reducible refine Below.alloc ?_ ?side _; case side => (first | omega | (with_reducible exact Below.size (by assumption)) | (simp; done) | (simp; omega))) | (with_reducible refine Below.setCell ?_ ?side _; case side => (first | omega | (with_reducible exact Below.size (by assumption)) | (simp; done) | (simp; omega))) | with_reducible refine Below.drew ?_ | with_reducible refine below_drewN ?_ _ | (with_reducible refine below_step (by assumption) ?side ?_; case side => (first | omega | (with_reducible exact Below.size (by assumption)) | (simp; done) | (simp; omega)))), .inl ⟨(show (30 : Int) ≠ 0 by decide), rfl⟩⟩
  rw [ek, show erM true = 0 from rfl] at hck
  replace hck := Lib.hid hck
  cases is
  · clear ek hl hb
    go_enter Try.func36, Try.ntmps36
    go_wp2_with (go_at_call 22; refine (hck.out _ (by (repeat first | with_reducible assumption | with_reducible exact Below.refl _ _ | (with_reducible refine Below.alloc ?_ ?side _; case side => (first | omega | (with_reducible exact Below.size (by assumption)) | (simp; done) | (simp; omega))) | (with_reducible refine Below.setCell ?_ ?side _; case side => (first | omega | (with_reducible exact Below.size (by assumption)) | (simp; done) | (simp; omega))) | with_reducible refine Below.drew ?_ | with_reducible refine below_drewN ?_ _ | (with_reducible refine below_step (by assumption) ?side ?_; case side => (first | omega | (with_reducible exact Below.size (by assumption)) | (simp; done) | (simp; omega)))))).mono ?_; (rintro e w1 ⟨rfl, hb1⟩; obtain ⟨hc1, hf1⟩ := bcell hb1; have zs1 := hb1.size; (try simp at zs1); have n1_0 : w.heap.size < w1.heap.size := (by omega); have n1_1 : w.heap.size + 1 < w1.heap.size := (by omega); have n1_2 : w.heap.size + 2 < w1.heap.size := (by omega)))
    have p1 : w1.cell? ⟨w.heap.size + 1, 0, none⟩ = some (.pointer none) := (hc1 _ 0 (by first | omega | (simp; done) | (simp; omega))).trans ((al3_1 rfl).2.1 0)
    have p2 : w1.cell? ⟨w.heap.size + 1 + 1, 0, none⟩ = some (.int .i64 0) := (hc1 _ 0 (by first | omega | (simp; done) | (simp; omega))).trans ((al3_2 rfl).2.1 0)
    obtain ⟨c1, c2⟩ := two_cells (u := .pointer none) (v := .int .i64 1) (by simp) p1 p2
    exact bodyPost_ret (v := .tuple #[.pointer none, .int .i64 1]) (by simp [results, Try.results36, go_sem, c1, c2]) rfl ⟨by (repeat first | with_reducible assumption | with_reducible exact Below.refl _ _ | (with_reducible refine Below.alloc ?_ ?side _; case side => (first | omega | (with_reducible exact Below.size (by assumption)) | (simp; done) | (simp; omega))) | (with_reducible refine Below.setCell ?_ ?side _; case side => (first | omega | (with_reducible exact Below.size (by assumption)) | (simp; done) | (simp; omega))) | with_reducible refine Below.drew ?_ | with_reducible refine below_drewN ?_ _ | (with_reducible refine below_step (by assumption) ?side ?_; case side => (first | omega | (with_reducible exact Below.size (by assumption)) | (simp; done) | (simp; omega)))), .inl ⟨(show (1 : Int) ≠ 0 by decide), rfl⟩⟩
  obtain ⟨ok, hlg⟩ := okM_of ek hl hb
  obtain ⟨ys, hys⟩ : ∃ ys, trS lv l0 l1 wa (abK lv nl) wrg bl = ys := ⟨_, rfl⟩
  rw [hys]
  have hwk := fun V (hV : Below w.heap.size w V) => work_c Al nl cl wa l0 l1 Ab nb cb wrg lv bl V ok.nl3 hl hlg (HLI.out.later hV) (HBI.out.later hV)
  have HWK := Lib.hid hwk
  have HIT := Lib.hid (fun gm => truths_c gm Al nl cl wa l0 l1 Ab nb cb wrg (abK lv nl) lv bl ok)
  rw [hys] at HIT
  clear ek hl hb hlg hwk ok hys
  obtain ⟨ab, hab⟩ : ∃ x, abK lv nl = x := ⟨_, rfl⟩
  rw [hab] at HWK HIT
  refine (callsIn_wide (n := 6)).1 (callsIn_of_wp_marks Try.func36 rfl trivial ?_ rfl)
  simp only [Try.ntmps36, List.size_toArray, List.length_cons, List.length_nil, Nat.reduceAdd, Nat.reduceSub, Array.replicate_succ, Array.replicate_zero, List.push_toArray, List.append_toArray, List.nil_append, List.cons_append]
  gi_wp2_with (refine ⟨trivial, ?_⟩; gi_at_call 22; refine callsIn_wide.2 ((hck.out _ (by (repeat first | with_reducible assumption | with_reducible exact Below.refl _ _ | (with_reducible refine Below.alloc ?_ ?side _; case side => (first | omega | (with_reducible exact Below.size (by assumption)) | (simp; done) | (simp; omega))) | (with_reducible refine Below.setCell ?_ ?side _; case side => (first | omega | (with_reducible exact Below.size (by assumption)) | (simp; done) | (simp; omega))) | with_reducible refine Below.drew ?_ | with_reducible refine below_drewN ?_ _ | (with_reducible refine below_step (by assumption) ?side ?_; case side => (first | omega | (with_reducible exact Below.size (by assumption)) | (simp; done) | (simp; omega)))))).mono ?_); (rintro e w1 ⟨rfl, hb1⟩; obtain ⟨hc1, hf1⟩ := bcell hb1; have zs1 := hb1.size; (try simp at zs1); have n1_0 : w.heap.size < w1.heap.size := (by omega); have n1_1 : w.heap.size + 1 < w1.heap.size := (by omega); have n1_2 : w.heap.size + 2 < w1.heap.size := (by omega)))
  have s0 := fun i => (hc1 (w.heap.size) i (by first | omega | (simp; done) | (simp; omega))).trans ((al3_0 rfl).2.1 i)
  have s1 := fun i => (hc1 (w.heap.size + 1) i (by first | omega | (simp; done) | (simp; omega))).trans ((al3_1 rfl).2.1 i)
  have s2 := fun i => (hc1 (w.heap.size + 1 + 1) i (by first | omega | (simp; done) | (simp; omega))).trans ((al3_2 rfl).2.1 i)
  have g1 := fun i => (hf1 (w.heap.size + 1) i (by first | omega | (simp; done) | (simp; omega))).trans ((al3_1 rfl).2.2 i)
  have g2 := fun i => (hf1 (w.heap.size + 1 + 1) i (by first | omega | (simp; done) | (simp; omega))).trans ((al3_2 rfl).2.2 i)
  have hbw1 : Below w.heap.size w w1 := by (repeat first | with_reducible assumption | with_reducible exact Below.refl _ _ | (with_reducible refine Below.alloc ?_ ?side _; case side => (first | omega | (with_reducible exact Below.size (by assumption)) | (simp; done) | (simp; omega))) | (with_reducible refine Below.setCell ?_ ?side _; case side => (first | omega | (with_reducible exact Below.size (by assumption)) | (simp; done) | (simp; omega))) | with_reducible refine Below.drew ?_ | with_reducible refine below_drewN ?_ _ | (with_reducible refine below_step (by assumption) ?side ?_; case side => (first | omega | (with_reducible exact Below.size (by assumption)) | (simp; done) | (simp; omega))))
  have zs1' := hbw1.size
  clear hc1 hf1 hb1
  refine ⟨trivial, callsIn_wide.2 ((HWK.out w1 hbw1).mono ?_)⟩
  rintro e w2 ⟨gm, rfl, hg, hM, hb2⟩
  have HM := Lib.hid hM
  have zs2 := hb2.size
  have hbw2 : Below w.heap.size w w2 := hbw1.trans (hb2.mono (by omega))
  have ltg := hM.blk.lt
  clear hM
  gi_wp2
  obtain ⟨W3, hW3⟩ : ∃ W3, w2.alloc (.cells #[.pointer (some ⟨gm, 0, none⟩)] 82) = W3 := ⟨_, rfl⟩
  rw [hW3]
  have hb3 : Below w2.heap.size w2 W3 := (al1 hW3).1
  have z3 : W3.heap.size = w2.heap.size + 1 := (al1 hW3).2
  have q7 := (al1_0 hW3).2.1 0
  have hbw3 : Below w.heap.size w W3 := hbw2.trans (hb3.mono (by omega))
  have hb13 : Below w1.heap.size w1 W3 := hb2.trans (hb3.mono (by omega))
  have HM3 := Lib.hid (HM.out.later hb3)
  have r1 := (hb13.cell (p := ⟨w.heap.size + 1, 0, none⟩) (by show w.heap.size + 1 < _; omega)).trans (s1 0)
  have r2 := (hb13.cell (p := ⟨w.heap.size + 1 + 1, 0, none⟩) (by show w.heap.size + 1 + 1 < _; omega)).trans (s2 0)
  have f1 := (hb13.frozen (p := ⟨w.heap.size + 1, 0, none⟩) (by show w.heap.size + 1 < _; omega)).trans (g1 0)
  have f2 := (hb13.frozen (p := ⟨w.heap.size + 1 + 1, 0, none⟩) (by show w.heap.size + 1 + 1 < _; omega)).trans (g2 0)
  have m1 : w.heap.size + 1 < W3.heap.size := by omega
  have m2 : w.heap.size + 1 + 1 < W3.heap.size := by omega
  have m7 : w2.heap.size < W3.heap.size := by omega
  have mg : gm < W3.heap.size := by omega
  have mg1 : w.heap.size + 1 + 1 < gm := by omega
  have z03 := hbw3.size
  clear hW3 s0 s1 s2 g1 g2 hb2 hb3 hb13 hbw1 hbw2 zs2 zs1' hg HM
  replace z3 := Lib.hid z3
  have en := enters_of Try.func37 (by kernel_rfl) rfl
  refine wpIn_rangeO (gf := 37) (fst := #[.pointer (some ⟨gm, 0, none⟩)]) (lb := #[]) rfl en (HIT.out gm) (fun K O x args W h => by rw [h]; rfl)
    (fun K O k W => (∀ b, O b → K b) ∧ k = 0 ∧ Below W3.heap.size W3 W)
    (fun c W => c = .ret ∧ ys ≠ [] ∧ Below w.heap.size w W ∧ W.cell? ⟨w.heap.size + 1, 0, none⟩ = some (.pointer (some ⟨gm, 0, none⟩)) ∧ W.cell? ⟨w.heap.size + 1 + 1, 0, none⟩ = some (.int .i64 0) ∧ Blk W gm 95 #[.slice Al nl cl, .int .i64 wa, .int .i64 l0, .int .i64 l1, .slice Ab nb cb, .int .i64 wrg, .int .i64 ab]) ?hI ?hIt ?hIx ?hmem ?h0 ?hround ?hdone ?hstop
  case hI =>
    rintro K O K' O' k W W' hK ⟨hO, rfl, a1⟩ hst
    exact ⟨hst.inO, rfl, hst.below (fun b hb => by have := hK b (hO b hb); omega) a1.size a1⟩
  case hIt =>
    rintro K O k W W' hK hs ⟨hO, rfl, a1⟩ ht
    exact ⟨hO, rfl, ht.below (Nat.le_refl _) a1.size a1⟩
  case hIx =>
    rintro c W W' ⟨rfl, a0, a1, a2, a3, a4⟩ hb
    exact ⟨rfl, a0, a1.trans (hb.mono z03), (hb.cell (p := ⟨w.heap.size + 1, 0, none⟩) m1).trans a2, (hb.cell (p := ⟨w.heap.size + 1 + 1, 0, none⟩) m2).trans a3, (hb.block _ mg).trans a4⟩
  case hmem =>
    rintro K O k W ⟨-, -, h⟩
    exact HM3.out.later h
  case h0 => exact fun W hb h => ⟨fun b h => h, rfl, hb⟩
  case hround =>
    rintro K O k x args W hK hO hs hx ⟨-, rfl, a1⟩ rfl
    have HX := Lib.hid hx
    clear hx
    obtain ⟨x0, x1, x2, x3, x4⟩ := x
    simp only [enc3]
    gi_wp2
    refine ⟨.refl, .refl, fun W2 ht => ?_⟩
    have t1 : Below W3.heap.size W3 W2 := ht.below (Nat.le_refl _) a1.size a1
    have c1 := (t1.cell (p := ⟨w.heap.size + 1, 0, none⟩) m1).trans r1
    have c2 := (t1.cell (p := ⟨w.heap.size + 1 + 1, 0, none⟩) m2).trans r2
    have c7 := (t1.cell (p := ⟨w2.heap.size, 0, none⟩) m7).trans q7
    have e1 := (t1.frozen (p := ⟨w.heap.size + 1, 0, none⟩) m1).trans f1
    have e2 := (t1.frozen (p := ⟨w.heap.size + 1 + 1, 0, none⟩) m2).trans f2
    have hw : Below w.heap.size w W2 := hbw3.trans (t1.mono z03)
    have HM4 := Lib.hid (HM3.out.later t1)
    clear a1 ht r1 r2 f1 f2 q7
    gi_wp2
    obtain ⟨d1, d2⟩ := two_cells (u := .pointer (some ⟨gm, 0, none⟩)) (v := .int .i64 0) (by simp) c1 c2
    exact ⟨(KeepL.set (by constructor <;> (show w.heap.size + 1 ≠ _; omega)) _).trans (KeepL.set (by constructor <;> (show w.heap.size + 1 + 1 ≠ _; omega)) _), (KpO.set (fun h => by have := hK _ h; simp at this; omega) _).trans (KpO.set (fun h => by have := hK _ h; simp at this; omega) _),
      rfl, (fun e => by have := HX.out; rw [e] at this; simp at this), by (repeat first | with_reducible assumption | with_reducible exact Below.refl _ _ | (with_reducible refine Below.alloc ?_ ?side _; case side => (first | omega | (with_reducible exact Below.size (by assumption)) | (simp; done) | (simp; omega))) | (with_reducible refine Below.setCell ?_ ?side _; case side => (first | omega | (with_reducible exact Below.size (by assumption)) | (simp; done) | (simp; omega))) | with_reducible refine Below.drew ?_ | with_reducible refine below_drewN ?_ _ | (with_reducible refine below_step (by assumption) ?side ?_; case side => (first | omega | (with_reducible exact Below.size (by assumption)) | (simp; done) | (simp; omega)))), d1, d2, (HM4.out.blk.far (by show gm ≠ w.heap.size + 1; omega) _).far (by show gm ≠ w.heap.size + 1 + 1; omega) _⟩
  case hdone =>
    rintro K O W hK hs ⟨-, h, a1⟩ hD
    have hE := Lib.hid (List.eq_nil_of_length_eq_zero h)
    have c1 := (a1.cell (p := ⟨w.heap.size + 1, 0, none⟩) m1).trans r1
    have c2 := (a1.cell (p := ⟨w.heap.size + 1 + 1, 0, none⟩) m2).trans r2
    have e1 := (a1.frozen (p := ⟨w.heap.size + 1, 0, none⟩) m1).trans f1
    have e2 := (a1.frozen (p := ⟨w.heap.size + 1 + 1, 0, none⟩) m2).trans f2
    have hw : Below w.heap.size w W := hbw3.trans (a1.mono z03)
    have zw := a1.size
    clear h
    gi_wp2
    rw [hE.out]
    obtain ⟨d1, d2⟩ := two_cells (u := .pointer none) (v := .int .i64 3) (by simp) c1 c2
    have hw2 : Below w.heap.size w ((W.setCell ⟨w.heap.size + 1, 0, none⟩ (.pointer none)).setCell ⟨w.heap.size + 1 + 1, 0, none⟩ (.int .i64 3)) := by (repeat first | with_reducible assumption | with_reducible exact Below.refl _ _ | (with_reducible refine Below.alloc ?_ ?side _; case side => (first | omega | (with_reducible exact Below.size (by assumption)) | (simp; done) | (simp; omega))) | (with_reducible refine Below.setCell ?_ ?side _; case side => (first | omega | (with_reducible exact Below.size (by assumption)) | (simp; done) | (simp; omega))) | with_reducible refine Below.drew ?_ | with_reducible refine below_drewN ?_ _ | (with_reducible refine below_step (by assumption) ?side ?_; case side => (first | omega | (with_reducible exact Below.size (by assumption)) | (simp; done) | (simp; omega))))
    refine leave_turn (v := .tuple #[.pointer none, .int .i64 3]) ((Below.heap_setCell _ _ _ _ (by show W3.heap.size ≠ w.heap.size + 1 + 1; omega)).trans ((Below.heap_setCell _ _ _ _ (by show W3.heap.size ≠ w.heap.size + 1; omega)).trans hD)) (fun W' ht => ?_) (fun W' ht => ⟨ht.below (by omega) (by simp; omega) hw2, .inl ⟨(show (3 : Int) ≠ 0 by decide), rfl⟩⟩)
    have d1' := (ht.cell (p := ⟨w.heap.size + 1, 0, none⟩) (by simp; omega) (by constructor <;> (show w.heap.size + 1 ≠ _; omega))).trans d1
    have d2' := (ht.cell (p := ⟨w.heap.size + 1 + 1, 0, none⟩) (by simp; omega) (by constructor <;> (show w.heap.size + 1 + 1 ≠ _; omega))).trans d2
    simp [results, Try.results36, go_sem, d1', d2']
  case hstop =>
    rintro c W ⟨rfl, a0, a1, a2, a3, a4⟩ hD
    have hE0 : ys.isEmpty = false := by
      cases e : ys with
      | nil => exact absurd e a0
      | cons => rfl
    have hE := Lib.hid hE0
    have K4 := Lib.hid a4
    have hDs := (Array.getElem?_eq_some_iff.1 hD).1
    clear hE0 a0 a4
    gi_wp2
    rw [hE.out]
    refine leave_turn (v := .tuple #[.pointer (some ⟨gm, 0, none⟩), .int .i64 0]) hD (fun W' ht => ?_) (fun W' ht => ?_)
    · have d1' := (ht.cell (p := ⟨w.heap.size + 1, 0, none⟩) (by show w.heap.size + 1 < _; omega) (by constructor <;> (show w.heap.size + 1 ≠ _; omega))).trans a2
      have d2' := (ht.cell (p := ⟨w.heap.size + 1 + 1, 0, none⟩) (by show w.heap.size + 1 + 1 < _; omega) (by constructor <;> (show w.heap.size + 1 + 1 ≠ _; omega))).trans a3
      simp [results, Try.results36, go_sem, d1', d2']
    · have hw : Below w.heap.size w W' := ht.below (by omega) (by omega) a1
      unfold OpPost
      rw [hab]
      exact ⟨hw, .inr ⟨rfl, gm, rfl, by omega, ht.blk K4.out (by omega), HLI.out.later hw, HBI.out.later hw⟩⟩

end Go.Proofs.Ytcinhibmohkeiaa
