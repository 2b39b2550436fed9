/- Fewest (layer 11). -/
import Derived.Test.YtdhlnlmhdacblaaTs35
namespace Go.Proofs.Ytdhlnlmhdacblaa
open Go.RowKit
open Go.Sort (grow)
set_option linter.unusedVariables false
set_option linter.unusedSimpArgs false

attribute [local go_sem] Oper.semAt_some

/-- the least number of wrong lines at which there is a net -/
def fewL (np nl : Nat) (pl : List Sp) (ls : List Ln) : Option Nat := (List.range (nl + 1)).find? fun (k : Nat) => !(netSets np nl pl ls (k : Int)).isEmpty
def fewO_q11 : Option Nat → Int × Int
  | some k => ((k : Int), 0)
  | none => (0, 3)
def fewR (np nl : Nat) (pl : List Sp) (ls : List Ln) (wrg : Int) : Int × Int :=
  bif ckBk np nl pl ls wrg then fewO_q11 (fewL np nl pl ls) else (0, 110)
theorem fewL_some {np nl : Nat} {pl : List Sp} {ls : List Ln} {k : Nat} (hk : k ≤ nl) (h0 : ∀ j : Nat, j < k → netSets np nl pl ls j = []) (h : netSets np nl pl ls k ≠ []) : fewL np nl pl ls = some k := by
  have := idxN_some (n := nl + 1) (p := fun (k : Nat) => !(netSets np nl pl ls (k : Int)).isEmpty) (k := k) (by omega) (by simpa using h) (fun j hj => by simp [h0 j hj])
  unfold idxN at this
  unfold fewL
  cases e : (List.range (nl + 1)).find? (fun (k : Nat) => !(netSets np nl pl ls (k : Int)).isEmpty) with
  | none => rw [e] at this; simp at this
  | some j => rw [e] at this; simp at this; simp; omega
theorem fewL_none {np nl : Nat} {pl : List Sp} {ls : List Ln} (h0 : ∀ j : Nat, j < nl + 1 → netSets np nl pl ls j = []) : fewL np nl pl ls = none := by
  unfold fewL
  simp
  intro j hj
  exact h0 j (by omega)

set_option maxRecDepth 100000 in
set_option maxHeartbeats 1600000 in
theorem fewest_c_q11 (Ap Al : Option Addr) (np cp nl cl : Nat) (wrg : Int) (pl : List Sp) (ls : List Ln) (w : World) (hp : np ≤ 40) (hl : nl ≤ 40) (HP : SpsAt w Ap np pl) (HL : LnsAt w Al nl ls) :
    Calls Try.prog 16 #[.agg #[.slice Ap np cp, .slice Al nl cl, .int .i64 wrg]] w
      fun e w' => e = .returned (.tuple #[.int .i64 (fewR np nl pl ls wrg).1, .int .i64 (fewR np nl pl ls wrg).2]) ∧ Below w.heap.size w w' := by
  have HPI := Lib.hid HP
  have HLI := Lib.hid HL
  cases hck : ckBk np nl pl ls wrg
  · have e0 : erB (ckBk np nl pl ls wrg) = 110 := by rw [hck]; rfl
    have e1 : fewR np nl pl ls wrg = (0, 110) := by simp [fewR, hck]
    rw [e1]
    clear HP HL e1 hck
    refine (callsIn_wide (n := 6)).1 (callsIn_of_wp_marks Try.func16 rfl trivial ?_ rfl)
    simp only [Try.ntmps16, List.size_toArray, List.length_cons, List.length_nil, Nat.reduceAdd, Nat.reduceSub, Array.replicate_succ, Array.replicate_zero, List.push_toArray, List.append_toArray, List.nil_append, List.cons_append]
    gi_wp2_with (refine ⟨trivial, ?_⟩; gi_at_call 35; refine callsIn_wide.2 ((check_c_q11 Ap Al np cp nl cl wrg pl ls _ hp hl (HPI.out.later (by (repeat first | with_reducible assumption | with_reducible exact Below.refl _ _ | refine below_drewN ?_ _ | refine Below.drew ?_ | refine Below.alloc ?_ (by first | omega | (with_reducible exact Below.size (by assumption)) | (simp; done) | (simp; omega)) _ | refine Below.setCell ?_ (by first | omega | (with_reducible exact Below.size (by assumption)) | (simp; done) | (simp; omega)) _ | refine below_step (by assumption) (by first | omega | (with_reducible exact Below.size (by assumption)) | (simp; done) | (simp; omega)) ?_))) (HLI.out.later (by (repeat first | with_reducible assumption | with_reducible exact Below.refl _ _ | refine below_drewN ?_ _ | refine Below.drew ?_ | refine Below.alloc ?_ (by first | omega | (with_reducible exact Below.size (by assumption)) | (simp; done) | (simp; omega)) _ | refine Below.setCell ?_ (by first | omega | (with_reducible exact Below.size (by assumption)) | (simp; done) | (simp; omega)) _ | refine below_step (by assumption) (by first | omega | (with_reducible exact Below.size (by assumption)) | (simp; done) | (simp; omega)) ?_)))).mono ?_); (rintro e w1 ⟨rfl, hb1⟩; obtain ⟨hc1, hf1⟩ := bcell hb1; have zs1 := hb1.size; (try simp at zs1); have n1_0 : w.heap.size < w1.heap.size := (by omega); have n1_1 : w.heap.size + 1 < w1.heap.size := (by omega); have n1_2 : w.heap.size + 2 < w1.heap.size := (by omega)))
    have p1 : w1.cell? ⟨w.heap.size + 1, 0, none⟩ = some (.int .i64 0) := (hc1 _ 0 (by first | omega | (simp; done) | (simp; omega))).trans ((al3_1 rfl).2.1 0)
    have p2 : w1.cell? ⟨w.heap.size + 1 + 1, 0, none⟩ = some (.int .i64 0) := (hc1 _ 0 (by first | omega | (simp; done) | (simp; omega))).trans ((al3_2 rfl).2.1 0)
    have hz1 : w.heap.size ≤ w1.heap.size := by omega
    refine leave_marks (B := w.heap.size) (v := .tuple #[.int .i64 0, .int .i64 110]) [] _ (.nil _) (by simp) (fun W' ht => ?_) (fun W' ht => ⟨rfl, ht.below (Nat.le_refl _) (by simp; omega) (by (repeat first | with_reducible assumption | with_reducible exact Below.refl _ _ | refine below_drewN ?_ _ | refine Below.drew ?_ | refine Below.alloc ?_ (by first | omega | (with_reducible exact Below.size (by assumption)) | (simp; done) | (simp; omega)) _ | refine Below.setCell ?_ (by first | omega | (with_reducible exact Below.size (by assumption)) | (simp; done) | (simp; omega)) _ | refine below_step (by assumption) (by first | omega | (with_reducible exact Below.size (by assumption)) | (simp; done) | (simp; omega)) ?_))⟩)
    obtain ⟨c1, c2⟩ := two_cells (u := .int .i64 0) (v := .int .i64 110) (by simp) p1 p2
    have d1 := ht.cell c1
    have d2 := ht.cell c2
    simp [results, Try.results16, go_sem, d1, d2]
  have e0 : erB (ckBk np nl pl ls wrg) = 0 := by rw [hck]; rfl
  have hfr : fewR np nl pl ls wrg = fewO_q11 (fewL np nl pl ls) := by simp [fewR, hck]
  rw [hfr]
  obtain ⟨hok, hw0, hw8⟩ := okBk_of HP.1 HL.1 hck
  have HK := Lib.hid hok
  have hl8 := hok.hl
  clear HP HL hck hok hfr
  refine (callsIn_wide (n := 6)).1 (callsIn_of_wp_marks Try.func16 rfl trivial ?_ rfl)
  simp only [Try.ntmps16, List.size_toArray, List.length_cons, List.length_nil, Nat.reduceAdd, Nat.reduceSub, Array.replicate_succ, Array.replicate_zero, List.push_toArray, List.append_toArray, List.nil_append, List.cons_append]
  gi_wp2_with (refine ⟨trivial, ?_⟩; gi_at_call 35; refine callsIn_wide.2 ((check_c_q11 Ap Al np cp nl cl wrg pl ls _ hp hl (HPI.out.later (by (repeat first | with_reducible assumption | with_reducible exact Below.refl _ _ | refine below_drewN ?_ _ | refine Below.drew ?_ | refine Below.alloc ?_ (by first | omega | (with_reducible exact Below.size (by assumption)) | (simp; done) | (simp; omega)) _ | refine Below.setCell ?_ (by first | omega | (with_reducible exact Below.size (by assumption)) | (simp; done) | (simp; omega)) _ | refine below_step (by assumption) (by first | omega | (with_reducible exact Below.size (by assumption)) | (simp; done) | (simp; omega)) ?_))) (HLI.out.later (by (repeat first | with_reducible assumption | with_reducible exact Below.refl _ _ | refine below_drewN ?_ _ | refine Below.drew ?_ | refine Below.alloc ?_ (by first | omega | (with_reducible exact Below.size (by assumption)) | (simp; done) | (simp; omega)) _ | refine Below.setCell ?_ (by first | omega | (with_reducible exact Below.size (by assumption)) | (simp; done) | (simp; omega)) _ | refine below_step (by assumption) (by first | omega | (with_reducible exact Below.size (by assumption)) | (simp; done) | (simp; omega)) ?_)))).mono ?_); (rintro e w1 ⟨rfl, hb1⟩; obtain ⟨hc1, hf1⟩ := bcell hb1; have zs1 := hb1.size; (try simp at zs1); have n1_0 : w.heap.size < w1.heap.size := (by omega); have n1_1 : w.heap.size + 1 < w1.heap.size := (by omega); have n1_2 : w.heap.size + 2 < w1.heap.size := (by omega)))
  have s0 := fun i => (hc1 (w.heap.size) i (by first | omega | (simp; done) | (simp; omega))).trans ((al3_0 rfl).2.1 i)
  have s1 := fun i => (hc1 (w.heap.size + 1) i (by first | omega | (simp; done) | (simp; omega))).trans ((al3_1 rfl).2.1 i)
  have s2 := fun i => (hc1 (w.heap.size + 1 + 1) i (by first | omega | (simp; done) | (simp; omega))).trans ((al3_2 rfl).2.1 i)
  have g1 := fun i => (hf1 (w.heap.size + 1) i (by first | omega | (simp; done) | (simp; omega))).trans ((al3_1 rfl).2.2 i)
  have g2 := fun i => (hf1 (w.heap.size + 1 + 1) i (by first | omega | (simp; done) | (simp; omega))).trans ((al3_2 rfl).2.2 i)
  have hbw1 : Below w.heap.size w w1 := by (repeat first | with_reducible assumption | with_reducible exact Below.refl _ _ | refine below_drewN ?_ _ | refine Below.drew ?_ | refine Below.alloc ?_ (by first | omega | (with_reducible exact Below.size (by assumption)) | (simp; done) | (simp; omega)) _ | refine Below.setCell ?_ (by first | omega | (with_reducible exact Below.size (by assumption)) | (simp; done) | (simp; omega)) _ | refine below_step (by assumption) (by first | omega | (with_reducible exact Below.size (by assumption)) | (simp; done) | (simp; omega)) ?_)
  have zs1' := hbw1.size
  clear hc1 hf1 hb1
  refine wpIn_loop (fun a' wr => ∃ (k : Nat) (Ds : List Nat) (u5 u16 u17 u18 u19 u20 u21 u22 u23 u24 : Value), k ≤ nl + 1 ∧
      a' = { tmps := #[.agg #[.slice Ap np cp, .slice Al nl cl, .int .i64 wrg], .pointer (some ⟨w.heap.size, 0, none⟩), .pointer (some ⟨w.heap.size + 1, 0, none⟩), .pointer (some ⟨w.heap.size + 1 + 1, 0, none⟩), .int .i64 0, u5,
        .agg #[.slice Ap np cp, .slice Al nl cl, .int .i64 wrg], .int .i64 0, .int .i64 0, .bool false, undef, .pointer (some ⟨w.heap.size, 1, none⟩), .slice Al nl cl, .int .i64 nl, .int .i64 (nl + 1), .int .i64 k, u16, u17, u18, u19, u20, u21, u22, u23, u24], defers := marks Ds } ∧
      Hid (∀ j : Nat, j < k → netSets np nl pl ls j = []) ∧ MarksOk Ds wr ∧ (∀ D ∈ Ds, w1.heap.size ≤ D) ∧ Below w1.heap.size w1 wr)
    (fun a' _ => nl + 1 - (intOf (a'.tmps.getD 15 undef)).toNat) ?h0 ?round
  case h0 => exact ⟨0, [], _, _, _, _, _, _, _, _, _, _, by omega, rfl, fun j hj => absurd hj (by omega), .nil _, by simp, Below.refl _ _⟩
  case round =>
    rintro a' wr ⟨k, Ds, u5, u16, u17, u18, u19, u20, u21, u22, u23, u24, hk, rfl, HE, HD, HG, hb⟩
    obtain ⟨hc, hf⟩ := bcell hb
    have zb := hb.size
    have m0 := Nat.lt_of_lt_of_le n1_0 zb
    have m1 := Nat.lt_of_lt_of_le n1_1 zb
    have m2 := Nat.lt_of_lt_of_le n1_2 zb
    have HDk := Lib.hid (And.intro HD HG)
    have hbw := hbw1.trans (hb.mono zs1')
    clear HD HG
    by_cases hlt : k < nl + 1
    · have hltB : decide ((k : Int) < nl + 1) = true := by simp; omega
      gi_wp2_with fail
      refine ⟨trivial, callsIn_wide.2 ((nets_c Ap Al np cp nl cl wrg _ pl ls _ (HPI.out.later (by (repeat first | with_reducible assumption | with_reducible exact Below.refl _ _ | refine below_drewN ?_ _ | refine Below.drew ?_ | refine Below.alloc ?_ (by first | omega | (with_reducible exact Below.size (by assumption)) | (simp; done) | (simp; omega)) _ | refine Below.setCell ?_ (by first | omega | (with_reducible exact Below.size (by assumption)) | (simp; done) | (simp; omega)) _ | refine below_step (by assumption) (by first | omega | (with_reducible exact Below.size (by assumption)) | (simp; done) | (simp; omega)) ?_))) (HLI.out.later (by (repeat first | with_reducible assumption | with_reducible exact Below.refl _ _ | refine below_drewN ?_ _ | refine Below.drew ?_ | refine Below.alloc ?_ (by first | omega | (with_reducible exact Below.size (by assumption)) | (simp; done) | (simp; omega)) _ | refine Below.setCell ?_ (by first | omega | (with_reducible exact Below.size (by assumption)) | (simp; done) | (simp; omega)) _ | refine below_step (by assumption) (by first | omega | (with_reducible exact Below.size (by assumption)) | (simp; done) | (simp; omega)) ?_)))).mono ?_)⟩
      rintro e w2 ⟨b1, b2, rfl, h1, h2, hm, hb2⟩
      have HM := Lib.hid hm
      have zs2 := hb2.size
      have bx := (hb2.cell (p := ⟨wr.heap.size, 0, none⟩) (by first | omega | (simp; done) | (simp; omega))).trans ((al1_0 rfl).2.1 0)
      have hb12 : Below w1.heap.size w1 w2 := hb.trans ((Below.trans ((Below.refl _ wr).alloc (Nat.le_refl _) _) (hb2.mono (by simp))).mono zb)
      have z12 := hb12.size
      have hDw : ∀ D ∈ Ds, D < wr.heap.size := HDk.out.1.lt
      have HD2 := Lib.hid (HDk.out.1.below hDw (Below.trans ((Below.refl _ wr).alloc (Nat.le_refl _) _) (hb2.mono (by simp))))
      rw [World.size_alloc] at zs2
      clear hm hc hf hDw
      gi_wp2
      have en := enters_of Try.func63 (by kernel_rfl) rfl
      have hDw : ∀ D ∈ Ds, D < w2.heap.size := HD2.out.lt
      refine wpIn_range (gf := 63) (fst := #[]) (lb := #[.pointer (some ⟨b1, 0, none⟩), .pointer (some ⟨b2, 0, none⟩)]) rfl en (nets1_c b1 b2 Ap Al np cp nl cl wrg k pl ls HK.out) ?hps
        (fun j W => j = 0 ∧ Below w1.heap.size w1 W ∧ W.cell? ⟨wr.heap.size, 0, none⟩ = some (.int .i64 k) ∧ MarksOk Ds W ∧ NetMem b1 b2 Ap Al np cp nl cl wrg k pl ls W)
        (fun c W => c = .ret ∧ netSets np nl pl ls k ≠ [] ∧ Below w.heap.size w W ∧ W.cell? ⟨w.heap.size + 1, 0, none⟩ = some (.int .i64 k) ∧ W.cell? ⟨w.heap.size + 1 + 1, 0, none⟩ = some (.int .i64 0) ∧ MarksOk Ds W) ?hI ?hIx ?hmem ?h0 ?hround ?hdone ?hstop
      case hps => rintro x args W ⟨A, c, rfl, -⟩; rfl
      case hI =>
        rintro j W W' ⟨rfl, a1, a2, a3, a4⟩ ht
        exact ⟨rfl, ht.below z12 a1.size a1, ht.cell a2, a3.tame hDw ht, a4.tame ht⟩
      case hIx =>
        rintro c W W' ⟨rfl, a0, a1, a2, a3, a4⟩ ht
        exact ⟨rfl, a0, ht.below (by omega) a1.size a1, ht.cell a2, ht.cell a3, a4.tame hDw ht⟩
      case hmem => rintro j W ⟨_, _, _, _, h⟩; exact h
      case h0 => exact ⟨rfl, hb12, bx, HD2.out, HM.out⟩
      case hround =>
        rintro l j x args W hl' hx ⟨rfl, a1, a2, a3, a4⟩ ⟨A, c, rfl, hpp⟩
        have hx := Lib.hid hx
        clear a4 hpp
        gi_wp2
        refine ⟨KeepsFrom.refl _ _, fun W2 ht => ?_⟩
        have c2 := ht.cell a2
        have t1 := ht.below z12 a1.size a1
        have t3 := Lib.hid (a3.tame hDw ht)
        have r1 := (t1.cell (p := ⟨w.heap.size + 1, 0, none⟩) n1_1).trans (s1 0)
        have r2 := (t1.cell (p := ⟨w.heap.size + 1 + 1, 0, none⟩) n1_2).trans (s2 0)
        have f1 := (t1.frozen (p := ⟨w.heap.size + 1, 0, none⟩) n1_1).trans (g1 0)
        have f2 := (t1.frozen (p := ⟨w.heap.size + 1 + 1, 0, none⟩) n1_2).trans (g2 0)
        have zt := t1.size
        have hbt : Below w.heap.size w W2 := hbw1.trans (t1.mono zs1')
        clear a1 a2 a3 ht
        gi_wp2
        obtain ⟨c1, c2⟩ := two_cells (u := .int .i64 k) (v := .int .i64 0) (by simp) r1 r2
        exact ⟨by (repeat first | with_reducible assumption | with_reducible exact KeepsFrom.refl _ _ | refine keeps_drewN ?_ _ | refine keeps_drew ?_ | refine keeps_alloc ?_ _ | refine keeps_setCell ?_ _ _ | refine keeps_step (by assumption) (Nat.le_refl _) ?_), rfl, (fun e => by have := hx.out; rw [e] at this; simp at this), by (repeat first | with_reducible assumption | with_reducible exact Below.refl _ _ | refine below_drewN ?_ _ | refine Below.drew ?_ | refine Below.alloc ?_ (by first | omega | (with_reducible exact Below.size (by assumption)) | (simp; done) | (simp; omega)) _ | refine Below.setCell ?_ (by first | omega | (with_reducible exact Below.size (by assumption)) | (simp; done) | (simp; omega)) _ | refine below_step (by assumption) (by first | omega | (with_reducible exact Below.size (by assumption)) | (simp; done) | (simp; omega)) ?_), c1, c2, t3.out.keeps (B := w1.heap.size) HDk.out.2 (by (repeat first | with_reducible assumption | with_reducible exact KeepsFrom.refl _ _ | refine keeps_drewN ?_ _ | refine keeps_drew ?_ | refine keeps_alloc ?_ _ | refine keeps_setCell ?_ _ _ | refine keeps_step (by assumption) (Nat.le_refl _) ?_))⟩
      case hdone =>
        rintro D W hD ⟨h, a1, a2, a3, -⟩ hK
        have hE := Lib.hid (List.eq_nil_of_length_eq_zero h)
        have hM := Lib.hid (a3.cons hK (fun h => by have := hDw D h; omega))
        clear h a2 a3
        gi_wp2
        rw [show ((k : Int) + 1) = ((k + 1 : Nat) : Int) from rfl]
        refine ⟨⟨k + 1, D :: Ds, _, _, _, _, _, _, _, _, _, _, (by omega : k + 1 ≤ nl + 1), rfl, ?_, hM.out, ?_, a1⟩, by simp [intOf]; omega⟩
        · intro j hj
          rcases Nat.lt_succ_iff_lt_or_eq.1 hj with h | rfl
          · exact HE.out j h
          · exact hE.out
        · intro E hE'
          rcases List.mem_cons.1 hE' with rfl | h
          · omega
          · exact HDk.out.2 E h
      case hstop =>
        rintro D c W hD ⟨rfl, a0, a1, a2, a3, a4⟩ hK
        have hM := Lib.hid (a4.cons hK (fun h => by have := hDw D h; omega))
        have hS := Lib.hid (fewL_some (by omega) HE.out a0)
        clear a0 a4
        gi_wp2
        rw [hS.out]
        refine leave_marks (B := w1.heap.size) (v := .tuple #[.int .i64 k, .int .i64 0]) (D :: Ds) W hM.out (fun E hE' => ?_) (fun W' ht => ?_) (fun W' ht => ⟨rfl, ht.below zs1' a1.size a1⟩)
        · rcases List.mem_cons.1 hE' with rfl | h
          · omega
          · exact HDk.out.2 E h
        · have d1 := ht.cell a2
          have d2 := ht.cell a3
          simp [results, Try.results16, go_sem, d1, d2]
    · obtain rfl : k = nl + 1 := by omega
      have hltB : decide (((nl + 1 : Nat) : Int) < nl + 1) = false := by simp
      have r1 := (hb.cell (p := ⟨w.heap.size + 1, 0, none⟩) n1_1).trans (s1 0)
      have r2 := (hb.cell (p := ⟨w.heap.size + 1 + 1, 0, none⟩) n1_2).trans (s2 0)
      gi_wp2
      rw [fewL_none HE.out]
      obtain ⟨c1, c2⟩ := two_cells (u := .int .i64 0) (v := .int .i64 3) (by simp) r1 r2
      refine leave_marks (B := w1.heap.size) (v := .tuple #[.int .i64 0, .int .i64 3]) Ds _ (HDk.out.1.keeps (B := w1.heap.size) HDk.out.2 (by (repeat first | with_reducible assumption | with_reducible exact KeepsFrom.refl _ _ | refine keeps_drewN ?_ _ | refine keeps_drew ?_ | refine keeps_alloc ?_ _ | refine keeps_setCell ?_ _ _ | refine keeps_step (by assumption) (Nat.le_refl _) ?_))) HDk.out.2 (fun W' ht => ?_) (fun W' ht => ⟨rfl, ht.below zs1' (by simp; omega) (by (repeat first | with_reducible assumption | with_reducible exact Below.refl _ _ | refine below_drewN ?_ _ | refine Below.drew ?_ | refine Below.alloc ?_ (by first | omega | (with_reducible exact Below.size (by assumption)) | (simp; done) | (simp; omega)) _ | refine Below.setCell ?_ (by first | omega | (with_reducible exact Below.size (by assumption)) | (simp; done) | (simp; omega)) _ | refine below_step (by assumption) (by first | omega | (with_reducible exact Below.size (by assumption)) | (simp; done) | (simp; omega)) ?_))⟩)
      have d1 := ht.cell c1
      have d2 := ht.cell c2
      simp [results, Try.results16, go_sem, d1, d2]

end Go.Proofs.Ytdhlnlmhdacblaa
