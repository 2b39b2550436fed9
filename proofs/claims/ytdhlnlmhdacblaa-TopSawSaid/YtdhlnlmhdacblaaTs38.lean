/- The ends of a pipe over all truths (layer 11): ends, Line, Stock, Lost. -/
import Derived.Test.YtdhlnlmhdacblaaTs37
namespace Go.Proofs.Ytdhlnlmhdacblaa
open Go.RowKit
open Go.Sort (grow)
set_option linter.unusedVariables false
set_option linter.unusedSimpArgs false

attribute [local go_sem] Oper.semAt_some

theorem some_set {w : World} {p q : Addr} {x : Value} (h : (w.cell? q).isSome = true) : ((w.setCell p x).cell? q).isSome = true := by
  by_cases e : p = q
  · subst e; rw [World.cell?_setCell_same' _ _ _ h]; rfl
  · rw [World.cell?_setCell_other _ _ _ _ e]; exact h
theorem some_of {w : World} {q : Addr} {x : Value} (h : w.cell? q = some x) : (w.cell? q).isSome = true := by rw [h]; rfl
theorem NetMem.keep {b1 b2 : Nat} {Ap Al : Option Addr} {np cp nl cl : Nat} {wrg wrong : Int} {pl : List Sp} {ls : List Ln} {W W' : World} (h : NetMem b1 b2 Ap Al np cp nl cl wrg wrong pl ls W)
    (e1 : W'.heap[b1]? = W.heap[b1]?) (e2 : W'.heap[b2]? = W.heap[b2]?) (HP : SpsAt W' Ap np pl) (HL : LnsAt W' Al nl ls) : NetMem b1 b2 Ap Al np cp nl cl wrg wrong pl ls W' :=
  ⟨fun i => (World.cell?_of_block (a := ⟨b1, i, none⟩) e1).trans (h.q1 i), (World.cell?_of_block (a := ⟨b2, 0, none⟩) e2).trans h.q2, HP, HL⟩

def joinSp (o s : Sp) : Sp := ⟨min o.lo s.lo, max o.hi s.hi⟩
/-- the least span around some spans -/
def hull : List Sp → Sp
  | [] => ⟨0, 0⟩
  | x :: xs => xs.foldl joinSp x
theorem hull_one (x : Sp) : hull [x] = x := rfl
theorem hull_snoc (l : List Sp) (x : Sp) (h : l ≠ []) : hull (l ++ [x]) = joinSp (hull l) x := by
  cases l with
  | nil => exact absurd rfl h
  | cons y ys => simp [hull, List.foldl_append]
/-- what pipe 'at' can carry with some set of wrong lines -/
def endsS (np nl : Nat) (pl : List Sp) (ls : List Ln) (i s : Nat) : Sp := endsP (2 * nl + np + 1) (flowL np nl pl ls s.testBit) i
def endsB (np nl : Nat) (pl : List Sp) (ls : List Ln) (wrg : Int) (i : Nat) : Sp := hull ((truthSets np nl pl ls wrg).map (endsS np nl pl ls i))

theorem flow_len (np nl : Nat) (pl : List Sp) (ls : List Ln) (ws : Nat → Bool) : (flowL np nl pl ls ws).length = 2 * nl + np + 1 := by
  simp [flowL, flTo_len, flPl]; omega
theorem flow_bd {np nl : Nat} {pl : List Sp} {ls : List Ln} {ws : Nat → Bool} (h : OkBk np nl pl ls) (k : Nat) : -20000 ≤ (ppAt (flowL np nl pl ls ws) k).lo ∧ (ppAt (flowL np nl pl ls ws) k).hi ≤ 20000 := by
  have hl := h.hl
  have hm : ∀ p ∈ flowL np nl pl ls ws, -20000 ≤ p.lo ∧ p.hi ≤ 20000 := by
    intro p hmem
    simp only [flowL, List.mem_append, flTo, flPl, List.mem_flatMap, List.mem_map, List.mem_range, List.mem_cons, List.not_mem_nil, or_false] at hmem
    rcases hmem with (⟨i, hi, hm⟩ | ⟨i, hi, rfl⟩) | rfl
    · obtain ⟨a1, a2, a3, a4, a5, a6, a7, a8, a9⟩ := h.ln i
      simp only [flLn, List.mem_cons, List.not_mem_nil, or_false] at hm
      rcases hm with rfl | rfl
      · cases ws i <;> simp <;> omega
      · simp; omega
    · have := h.sp i
      simp; omega
    · simp; omega
  unfold ppAt
  rw [List.getD_eq_getElem?_getD]
  cases e : (flowL np nl pl ls ws)[k]? with
  | none => simp
  | some p => exact hm p (List.mem_of_getElem? e)
theorem endsS_bd {np nl : Nat} {pl : List Sp} {ls : List Ln} {i s : Nat} (h : OkBk np nl pl ls) : -100000 ≤ (endsS np nl pl ls i s).lo ∧ (endsS np nl pl ls i s).lo ≤ 100000 ∧ -100000 ≤ (endsS np nl pl ls i s).hi ∧ (endsS np nl pl ls i s).hi ≤ 100000 := by
  have h1 := flow_bd (ws := s.testBit) h i
  have h2 := (flow_at (ws := s.testBit) h i).2
  have h3 := leastN_le ((ppAt (flowL np nl pl ls s.testBit) i).hi - (ppAt (flowL np nl pl ls s.testBit) i).lo).toNat fun k => canL (2 * nl + np + 1) (withPp (flowL np nl pl ls s.testBit) i (ppAt (flowL np nl pl ls s.testBit) i).lo ((ppAt (flowL np nl pl ls s.testBit) i).lo + k))
  have h4 := leastN_le ((ppAt (flowL np nl pl ls s.testBit) i).hi - (ppAt (flowL np nl pl ls s.testBit) i).lo).toNat fun k => canL (2 * nl + np + 1) (withPp (flowL np nl pl ls s.testBit) i ((ppAt (flowL np nl pl ls s.testBit) i).hi - k) (ppAt (flowL np nl pl ls s.testBit) i).hi)
  simp only [endsS, endsP, lowP, highP]
  omega

set_option maxRecDepth 100000 in
set_option maxHeartbeats 16000000 in
theorem endsB_c (Ap Al : Option Addr) (np cp nl cl i : Nat) (wrg : Int) (pl : List Sp) (ls : List Ln) (w : World) (hi : i < 2 * nl + np + 1) (hck : ckBk np nl pl ls wrg = true) (HP : SpsAt w Ap np pl) (HL : LnsAt w Al nl ls) :
    Calls Try.prog 39 #[.agg #[.slice Ap np cp, .slice Al nl cl, .int .i64 wrg], .int .i64 i] w
      fun e w' => e = .returned (.agg #[.int .i64 (endsB np nl pl ls wrg i).lo, .int .i64 (endsB np nl pl ls wrg i).hi]) ∧ Below w.heap.size w w' := by
  have HPI := Lib.hid HP
  have HLI := Lib.hid HL
  obtain ⟨hok, hw0, hw8⟩ := okBk_of HP.1 HL.1 hck
  have HK := Lib.hid hok
  have hl8 := hok.hl
  have hp5 := hok.hp
  clear HP HL hck hok
  refine (callsIn_wide (n := 6)).1 (callsIn_of_wp_marks Try.func39 rfl trivial ?_ rfl)
  simp only [Try.ntmps39, List.size_toArray, List.length_cons, List.length_nil, Nat.reduceAdd, Nat.reduceSub, Array.replicate_succ, Array.replicate_zero, List.push_toArray, List.append_toArray, List.nil_append, List.cons_append]
  gi_wp2_with fail
  refine ⟨trivial, callsIn_wide.2 ((truths_c_q11 Ap Al np cp nl cl wrg pl ls _ (by omega) (HPI.out.later (by (repeat first | with_reducible assumption | with_reducible exact Below.refl _ _ | refine below_drewN ?_ _ | refine Below.drew ?_ | refine Below.alloc ?_ (by first | omega | (with_reducible exact Below.size (by assumption)) | (simp; done) | (simp; omega)) _ | refine Below.setCell ?_ (by first | omega | (with_reducible exact Below.size (by assumption)) | (simp; done) | (simp; omega)) _ | refine below_step (by assumption) (by first | omega | (with_reducible exact Below.size (by assumption)) | (simp; done) | (simp; omega)) ?_))) (HLI.out.later (by (repeat first | with_reducible assumption | with_reducible exact Below.refl _ _ | refine below_drewN ?_ _ | refine Below.drew ?_ | refine Below.alloc ?_ (by first | omega | (with_reducible exact Below.size (by assumption)) | (simp; done) | (simp; omega)) _ | refine Below.setCell ?_ (by first | omega | (with_reducible exact Below.size (by assumption)) | (simp; done) | (simp; omega)) _ | refine below_step (by assumption) (by first | omega | (with_reducible exact Below.size (by assumption)) | (simp; done) | (simp; omega)) ?_)))).mono ?_)⟩
  rintro e w2 ⟨b1, b2, rfl, h1, h2, hm, hb2⟩
  have HM := Lib.hid hm
  obtain ⟨hc2, hf2⟩ := bcell hb2
  have zs2 := hb2.size
  simp only [World.size_alloc] at zs2
  have s1 := (hc2 (w.heap.size + 1) 0 (by first | omega | (simp; done) | (simp; omega))).trans ((al5_1 rfl).2.1 0)
  have s2 := fun i => (hc2 (w.heap.size + 1 + 1) i (by first | omega | (simp; done) | (simp; omega))).trans ((al5_2 rfl).2.1 i)
  have s3 := fun i => (hc2 (w.heap.size + 1 + 1 + 1) i (by first | omega | (simp; done) | (simp; omega))).trans ((al5_3 rfl).2.1 i)
  have s4 := (hc2 (w.heap.size + 1 + 1 + 1 + 1) 0 (by first | omega | (simp; done) | (simp; omega))).trans ((al5_4 rfl).2.1 0)
  have f2 := fun i => (hf2 (w.heap.size + 1 + 1) i (by first | omega | (simp; done) | (simp; omega))).trans ((al5_2 rfl).2.2 i)
  have f3 := fun i => (hf2 (w.heap.size + 1 + 1 + 1) i (by first | omega | (simp; done) | (simp; omega))).trans ((al5_3 rfl).2.2 i)
  have f4 := fun i => (hf2 (w.heap.size + 1 + 1 + 1 + 1) i (by first | omega | (simp; done) | (simp; omega))).trans ((al5_4 rfl).2.2 i)
  have hbw2 : Below w.heap.size w w2 := by (repeat first | with_reducible assumption | with_reducible exact Below.refl _ _ | refine below_drewN ?_ _ | refine Below.drew ?_ | refine Below.alloc ?_ (by first | omega | (with_reducible exact Below.size (by assumption)) | (simp; done) | (simp; omega)) _ | refine Below.setCell ?_ (by first | omega | (with_reducible exact Below.size (by assumption)) | (simp; done) | (simp; omega)) _ | refine below_step (by assumption) (by first | omega | (with_reducible exact Below.size (by assumption)) | (simp; done) | (simp; omega)) ?_)
  have z2 := hbw2.size
  clear hm hc2 hf2 hb2
  gi_wp2
  have en := enters_of Try.func63 (by kernel_rfl) rfl
  obtain ⟨hk, hhk⟩ : ∃ hk : Nat → Sp, ∀ k, hk k = hull (((truthSets np nl pl ls wrg).take k).map (endsS np nl pl ls i)) := ⟨_, fun _ => rfl⟩
  replace hhk := Lib.hid hhk
  have hk0 : hk 0 = ⟨0, 0⟩ := by rw [hhk.out]; rfl
  refine wpIn_range (gf := 63) (fst := #[]) (lb := #[.pointer (some ⟨b1, 0, none⟩), .pointer (some ⟨b2, 0, none⟩)]) rfl en (nets1_c b1 b2 Ap Al np cp nl cl wrg (min wrg nl) pl ls HK.out) ?hps
    (fun k W => k ≤ (truthSets np nl pl ls wrg).length ∧ Below w.heap.size w W ∧ W.cell? ⟨w.heap.size + 1, 0, none⟩ = some (.int .i64 i) ∧
      W.cell? ⟨w.heap.size + 1 + 1 + 1, 0, none⟩ = some (.int .i64 (hk k).lo) ∧
      W.cell? ⟨w.heap.size + 1 + 1 + 1, 1, none⟩ = some (.int .i64 (hk k).hi) ∧
      W.frozen? ⟨w.heap.size + 1 + 1 + 1, 0, none⟩ = false ∧ W.frozen? ⟨w.heap.size + 1 + 1 + 1, 1, none⟩ = false ∧
      W.cell? ⟨w.heap.size + 1 + 1, 0, none⟩ = some (.int .i64 0) ∧ W.cell? ⟨w.heap.size + 1 + 1, 1, none⟩ = some (.int .i64 0) ∧
      W.frozen? ⟨w.heap.size + 1 + 1, 0, none⟩ = false ∧ W.frozen? ⟨w.heap.size + 1 + 1, 1, none⟩ = false ∧
      W.cell? ⟨w.heap.size + 1 + 1 + 1 + 1, 0, none⟩ = some (.bool (k == 0)) ∧ W.frozen? ⟨w.heap.size + 1 + 1 + 1 + 1, 0, none⟩ = false ∧
      NetMem b1 b2 Ap Al np cp nl cl wrg (min wrg nl) pl ls W)
    (fun _ _ => False) ?hI ?hIx ?hmem ?h0 ?hround ?hdone ?hstop
  case hps => rintro x args W ⟨A, c, rfl, -⟩; rfl
  case hI =>
    rintro k W W' ⟨a0, a1, a2, a3, a4, a5, a6, r3, r4, r5, r6, a7, a8, a9⟩ ht
    exact ⟨a0, ht.below z2 a1.size a1, ht.cell a2, ht.cell a3, ht.cell a4, ht.frozen a3 a5, ht.frozen a4 a6, ht.cell r3, ht.cell r4, ht.frozen r3 r5, ht.frozen r4 r6, ht.cell a7, ht.frozen a7 a8, a9.tame ht⟩
  case hIx => rintro c W W' h; exact h.elim
  case hmem => rintro k W ⟨_, _, _, _, _, _, _, _, _, _, _, _, _, h⟩; exact h
  case h0 => exact ⟨Nat.zero_le _, hbw2, s1, (by rw [hk0]; exact s3 0), (by rw [hk0]; exact s3 1), f3 0, f3 1, s2 0, s2 1, f2 0, f2 1, s4, f4 0, HM.out⟩
  case hround =>
    rintro l k x args W hl' hx ⟨a0, a1, a2, a3, a4, a5, a6, r3, r4, r5, r6, a7, a8, a9⟩ ⟨A, c, rfl, hpp⟩
    replace hx := Lib.hid hx
    replace hpp := Lib.hid hpp
    gi_wp2
    refine ⟨KeepsFrom.refl _ _, fun W2 ht => ?_⟩
    obtain ⟨o, ho⟩ : ∃ o, hk k = o := ⟨_, rfl⟩
    obtain ⟨s, hs⟩ : ∃ s, endsP (2 * nl + np + 1) (flowL np nl pl ls x.testBit) i = s := ⟨_, rfl⟩
    have hxk : (truthSets np nl pl ls wrg)[k]? = some x := hx.out
    have hk1 : k + 1 ≤ (truthSets np nl pl ls wrg).length := by
      rcases Nat.lt_or_ge k (truthSets np nl pl ls wrg).length with h | h
      · exact h
      · rw [List.getElem?_eq_none h] at hxk; cases hxk
    have hnx : hk (k + 1) = bif k == 0 then s else joinSp o s := by
      rw [hhk.out, List.take_add_one, hxk, List.map_append]
      cases k with
      | zero => simp [hull, endsS, hs]
      | succ k' =>
        show hull (_ ++ [endsS np nl pl ls i x]) = _
        rw [hull_snoc _ _ (by
          intro h0
          have := congrArg List.length h0
          rw [List.length_map, List.length_take, Nat.min_eq_left (by omega)] at this
          cases this), ← hhk.out, ho, endsS, hs]
        simp
    replace hnx := Lib.hid hnx
    replace hk1 := Lib.hid hk1
    clear hk0
    rw [ho] at a3 a4
    have b1' := ht.below z2 a1.size a1
    have zt := ht.size
    have zt2 := a1.size
    have d2 := ht.cell a2
    have d3 := ht.cell a3
    have d4 := ht.cell a4
    have d5 := ht.frozen a3 a5
    have d6 := ht.frozen a4 a6
    have d7 := ht.cell a7
    have d8 := ht.frozen a7 a8
    have e3 := ht.cell r3
    have e4 := ht.cell r4
    have e5 := ht.frozen r3 r5
    have e6 := ht.frozen r4 r6
    have hq := Lib.hid (a9.tame ht)
    have hP := Lib.hid (pps_tame ht hpp.out)
    clear a0 a1 a2 a3 a4 a5 a6 a7 a8 a9 r3 r4 r5 r6 hpp ht hxk hx s1 s2 s3 s4 f2 f3 f4
    gi_wp2_with fail
    have hfb := flow_bd (ws := x.testBit) HK.out i
    refine ⟨trivial, callsIn_wide.2 ((ends_c A _ c i (flowL np nl pl ls x.testBit) _ (by omega) hi hP.out (fun k => (flow_at HK.out k).1) hfb.1 (flow_at HK.out i).2 hfb.2).mono ?_)⟩
    rintro e w3 ⟨rfl, hb3⟩
    rw [hs]
    obtain ⟨hc3, hf3⟩ := bcell hb3
    have z3 := hb3.size
    have zq : w.heap.size + 1 + 1 + 1 + 1 < W2.heap.size := by obtain ⟨ob, h, _⟩ := cells_of_cell d7; exact (Array.getElem?_eq_some_iff.1 h).1
    have x2 := (hc3 (w.heap.size + 1) 0 (by omega)).trans d2
    have x3 := (hc3 (w.heap.size + 1 + 1 + 1) 0 (by omega)).trans d3
    have x4 := (hc3 (w.heap.size + 1 + 1 + 1) 1 (by omega)).trans d4
    have x5 := (hf3 (w.heap.size + 1 + 1 + 1) 0 (by omega)).trans d5
    have x6 := (hf3 (w.heap.size + 1 + 1 + 1) 1 (by omega)).trans d6
    have x7 := (hc3 (w.heap.size + 1 + 1 + 1 + 1) 0 (by omega)).trans d7
    have x8 := (hf3 (w.heap.size + 1 + 1 + 1 + 1) 0 (by omega)).trans d8
    have y3 := (hc3 (w.heap.size + 1 + 1) 0 (by omega)).trans e3
    have y4 := (hc3 (w.heap.size + 1 + 1) 1 (by omega)).trans e4
    have y5 := (hf3 (w.heap.size + 1 + 1) 0 (by omega)).trans e5
    have y6 := (hf3 (w.heap.size + 1 + 1) 1 (by omega)).trans e6
    have hq3 := Lib.hid (hq.out.below hb3)
    have bb3 : Below w.heap.size w w3 := b1'.trans (hb3.mono (by omega))
    have kp3 : KeepsFrom w2.heap.size W2 w3 := keeps_step hb3 (Nat.le_refl _) (.refl _ _)
    clear hc3 hf3 hb3 d2 d3 d4 d5 d6 d7 d8 e3 e4 e5 e6 hq hs ho hP
    have l1 : b1 < w3.heap.size := by
      obtain ⟨ob, h, _⟩ := cells_of_cell (hq3.out.q1 0); exact (Array.getElem?_eq_some_iff.1 h).1
    have l2 : b2 < w3.heap.size := by
      obtain ⟨ob, h, _⟩ := cells_of_cell hq3.out.q2; exact (Array.getElem?_eq_some_iff.1 h).1
    simp only [World.size_alloc] at h1 h2
    have n1 : w.heap.size + 1 < w3.heap.size := by omega
    have n2 : w.heap.size + 1 + 1 < w3.heap.size := by omega
    have n3 : w.heap.size + 1 + 1 + 1 < w3.heap.size := by omega
    have n4 : w.heap.size + 1 + 1 + 1 + 1 < w3.heap.size := by omega
    cases k with
    | zero =>
      replace x7 : w3.cell? ⟨w.heap.size + 1 + 1 + 1 + 1, 0, none⟩ = some (.bool true) := x7
      gi_wp2
      all_goals
        replace hnx : hk (0 + 1) = s := hnx.out
        replace hk1 := hk1.out
        refine ⟨by (repeat first | with_reducible assumption | with_reducible exact KeepsFrom.refl _ _ | with_reducible refine keeps_setCell ?_ _ _ | with_reducible refine keeps_alloc ?_ _ | with_reducible refine keeps_drew ?_ | with_reducible refine keeps_drewN ?_ _ | with_reducible refine keeps_step (by assumption) (Nat.le_refl _) ?_), hk1, by (repeat first | with_reducible assumption | with_reducible exact Below.refl _ _ | (with_reducible refine Below.alloc ?_ ?side _; case side => (first | omega | (with_reducible exact Below.size (by assumption)) | (simp; done) | (simp; omega))) | (with_reducible refine Below.setCell ?_ ?side _; case side => (first | omega | (with_reducible exact Below.size (by assumption)) | (simp; done) | (simp; omega))) | with_reducible refine Below.drew ?_ | with_reducible refine below_drewN ?_ _ | (with_reducible refine below_step (by assumption) ?side ?_; case side => (first | omega | (with_reducible exact Below.size (by assumption)) | (simp; done) | (simp; omega)))), ?_, ?_, ?_, ?_, ?_, ?_, ?_, ?_, ?_, ?_, ?_, ?_⟩
        · (repeat first | with_reducible assumption | (with_reducible refine (World.cell?_alloc_lt _ _ _ ?side).trans ?_; case side => (first | omega | (simp; done) | (simp; omega))) | with_reducible refine World.cell?_setCell_same' _ _ _ ?_ | (with_reducible refine (World.cell?_setCell_other _ _ _ _ ?side).trans ?_; case side => (simp; done)) | with_reducible refine some_set ?_ | with_reducible exact some_of (by assumption))
        · rw [hnx]
          (repeat first | with_reducible assumption | (with_reducible refine (World.cell?_alloc_lt _ _ _ ?side).trans ?_; case side => (first | omega | (simp; done) | (simp; omega))) | with_reducible refine World.cell?_setCell_same' _ _ _ ?_ | (with_reducible refine (World.cell?_setCell_other _ _ _ _ ?side).trans ?_; case side => (simp; done)) | with_reducible refine some_set ?_ | with_reducible exact some_of (by assumption))
        · rw [hnx]
          (repeat first | with_reducible assumption | (with_reducible refine (World.cell?_alloc_lt _ _ _ ?side).trans ?_; case side => (first | omega | (simp; done) | (simp; omega))) | with_reducible refine World.cell?_setCell_same' _ _ _ ?_ | (with_reducible refine (World.cell?_setCell_other _ _ _ _ ?side).trans ?_; case side => (simp; done)) | with_reducible refine some_set ?_ | with_reducible exact some_of (by assumption))
        · (first | (simp only [frozen?_alloc_cells, World.frozen?_setCell]; assumption) | (simp only [frozen?_alloc_cells, World.frozen?_setCell, World.frozen?_drew]; assumption))
        · (first | (simp only [frozen?_alloc_cells, World.frozen?_setCell]; assumption) | (simp only [frozen?_alloc_cells, World.frozen?_setCell, World.frozen?_drew]; assumption))
        · (repeat first | with_reducible assumption | (with_reducible refine (World.cell?_alloc_lt _ _ _ ?side).trans ?_; case side => (first | omega | (simp; done) | (simp; omega))) | with_reducible refine World.cell?_setCell_same' _ _ _ ?_ | (with_reducible refine (World.cell?_setCell_other _ _ _ _ ?side).trans ?_; case side => (simp; done)) | with_reducible refine some_set ?_ | with_reducible exact some_of (by assumption))
        · (repeat first | with_reducible assumption | (with_reducible refine (World.cell?_alloc_lt _ _ _ ?side).trans ?_; case side => (first | omega | (simp; done) | (simp; omega))) | with_reducible refine World.cell?_setCell_same' _ _ _ ?_ | (with_reducible refine (World.cell?_setCell_other _ _ _ _ ?side).trans ?_; case side => (simp; done)) | with_reducible refine some_set ?_ | with_reducible exact some_of (by assumption))
        · (first | (simp only [frozen?_alloc_cells, World.frozen?_setCell]; assumption) | (simp only [frozen?_alloc_cells, World.frozen?_setCell, World.frozen?_drew]; assumption))
        · (first | (simp only [frozen?_alloc_cells, World.frozen?_setCell]; assumption) | (simp only [frozen?_alloc_cells, World.frozen?_setCell, World.frozen?_drew]; assumption))
        · show _ = some (Value.bool false)
          (repeat first | with_reducible assumption | (with_reducible refine (World.cell?_alloc_lt _ _ _ ?side).trans ?_; case side => (first | omega | (simp; done) | (simp; omega))) | with_reducible refine World.cell?_setCell_same' _ _ _ ?_ | (with_reducible refine (World.cell?_setCell_other _ _ _ _ ?side).trans ?_; case side => (simp; done)) | with_reducible refine some_set ?_ | with_reducible exact some_of (by assumption))
        · (first | (simp only [frozen?_alloc_cells, World.frozen?_setCell]; assumption) | (simp only [frozen?_alloc_cells, World.frozen?_setCell, World.frozen?_drew]; assumption))
        · refine hq3.out.keep ?_ ?_ (HPI.out.later (by (repeat first | with_reducible assumption | with_reducible exact Below.refl _ _ | (with_reducible refine Below.alloc ?_ ?side _; case side => (first | omega | (with_reducible exact Below.size (by assumption)) | (simp; done) | (simp; omega))) | (with_reducible refine Below.setCell ?_ ?side _; case side => (first | omega | (with_reducible exact Below.size (by assumption)) | (simp; done) | (simp; omega))) | with_reducible refine Below.drew ?_ | with_reducible refine below_drewN ?_ _ | (with_reducible refine below_step (by assumption) ?side ?_; case side => (first | omega | (with_reducible exact Below.size (by assumption)) | (simp; done) | (simp; omega)))))) (HLI.out.later (by (repeat first | with_reducible assumption | with_reducible exact Below.refl _ _ | (with_reducible refine Below.alloc ?_ ?side _; case side => (first | omega | (with_reducible exact Below.size (by assumption)) | (simp; done) | (simp; omega))) | (with_reducible refine Below.setCell ?_ ?side _; case side => (first | omega | (with_reducible exact Below.size (by assumption)) | (simp; done) | (simp; omega))) | with_reducible refine Below.drew ?_ | with_reducible refine below_drewN ?_ _ | (with_reducible refine below_step (by assumption) ?side ?_; case side => (first | omega | (with_reducible exact Below.size (by assumption)) | (simp; done) | (simp; omega))))))
          · repeat first | with_reducible rfl | (with_reducible refine (Below.heap_alloc _ _ _ ?side).trans ?_; case side => (first | omega | (simp; omega))) | (with_reducible refine (Below.heap_setCell _ _ _ _ ?side).trans ?_; case side => (first | omega | (simp; omega)))
          · repeat first | with_reducible rfl | (with_reducible refine (Below.heap_alloc _ _ _ ?side).trans ?_; case side => (first | omega | (simp; omega))) | (with_reducible refine (Below.heap_setCell _ _ _ _ ?side).trans ?_; case side => (first | omega | (simp; omega)))
    | succ k' =>
      replace x7 : w3.cell? ⟨w.heap.size + 1 + 1 + 1 + 1, 0, none⟩ = some (.bool false) := x7
      gi_wp2
      all_goals
        replace hnx : hk (k' + 1 + 1) = joinSp o s := hnx.out
        replace hk1 := hk1.out
        refine ⟨by (repeat first | with_reducible assumption | with_reducible exact KeepsFrom.refl _ _ | with_reducible refine keeps_setCell ?_ _ _ | with_reducible refine keeps_alloc ?_ _ | with_reducible refine keeps_drew ?_ | with_reducible refine keeps_drewN ?_ _ | with_reducible refine keeps_step (by assumption) (Nat.le_refl _) ?_), hk1, by (repeat first | with_reducible assumption | with_reducible exact Below.refl _ _ | (with_reducible refine Below.alloc ?_ ?side _; case side => (first | omega | (with_reducible exact Below.size (by assumption)) | (simp; done) | (simp; omega))) | (with_reducible refine Below.setCell ?_ ?side _; case side => (first | omega | (with_reducible exact Below.size (by assumption)) | (simp; done) | (simp; omega))) | with_reducible refine Below.drew ?_ | with_reducible refine below_drewN ?_ _ | (with_reducible refine below_step (by assumption) ?side ?_; case side => (first | omega | (with_reducible exact Below.size (by assumption)) | (simp; done) | (simp; omega)))), ?_, ?_, ?_, ?_, ?_, ?_, ?_, ?_, ?_, ?_, ?_, ?_⟩
        · (repeat first | with_reducible assumption | (with_reducible refine (World.cell?_alloc_lt _ _ _ ?side).trans ?_; case side => (first | omega | (simp; done) | (simp; omega))) | with_reducible refine World.cell?_setCell_same' _ _ _ ?_ | (with_reducible refine (World.cell?_setCell_other _ _ _ _ ?side).trans ?_; case side => (simp; done)) | with_reducible refine some_set ?_ | with_reducible exact some_of (by assumption))
        · rw [hnx]
          first
            | rw [show (joinSp o s).lo = o.lo by simp only [joinSp]; omega]
            | rw [show (joinSp o s).lo = s.lo by simp only [joinSp]; omega]
          (repeat first | with_reducible assumption | (with_reducible refine (World.cell?_alloc_lt _ _ _ ?side).trans ?_; case side => (first | omega | (simp; done) | (simp; omega))) | with_reducible refine World.cell?_setCell_same' _ _ _ ?_ | (with_reducible refine (World.cell?_setCell_other _ _ _ _ ?side).trans ?_; case side => (simp; done)) | with_reducible refine some_set ?_ | with_reducible exact some_of (by assumption))
        · rw [hnx]
          first
            | rw [show (joinSp o s).hi = o.hi by simp only [joinSp]; omega]
            | rw [show (joinSp o s).hi = s.hi by simp only [joinSp]; omega]
          (repeat first | with_reducible assumption | (with_reducible refine (World.cell?_alloc_lt _ _ _ ?side).trans ?_; case side => (first | omega | (simp; done) | (simp; omega))) | with_reducible refine World.cell?_setCell_same' _ _ _ ?_ | (with_reducible refine (World.cell?_setCell_other _ _ _ _ ?side).trans ?_; case side => (simp; done)) | with_reducible refine some_set ?_ | with_reducible exact some_of (by assumption))
        · (first | (simp only [frozen?_alloc_cells, World.frozen?_setCell]; assumption) | (simp only [frozen?_alloc_cells, World.frozen?_setCell, World.frozen?_drew]; assumption))
        · (first | (simp only [frozen?_alloc_cells, World.frozen?_setCell]; assumption) | (simp only [frozen?_alloc_cells, World.frozen?_setCell, World.frozen?_drew]; assumption))
        · (repeat first | with_reducible assumption | (with_reducible refine (World.cell?_alloc_lt _ _ _ ?side).trans ?_; case side => (first | omega | (simp; done) | (simp; omega))) | with_reducible refine World.cell?_setCell_same' _ _ _ ?_ | (with_reducible refine (World.cell?_setCell_other _ _ _ _ ?side).trans ?_; case side => (simp; done)) | with_reducible refine some_set ?_ | with_reducible exact some_of (by assumption))
        · (repeat first | with_reducible assumption | (with_reducible refine (World.cell?_alloc_lt _ _ _ ?side).trans ?_; case side => (first | omega | (simp; done) | (simp; omega))) | with_reducible refine World.cell?_setCell_same' _ _ _ ?_ | (with_reducible refine (World.cell?_setCell_other _ _ _ _ ?side).trans ?_; case side => (simp; done)) | with_reducible refine some_set ?_ | with_reducible exact some_of (by assumption))
        · (first | (simp only [frozen?_alloc_cells, World.frozen?_setCell]; assumption) | (simp only [frozen?_alloc_cells, World.frozen?_setCell, World.frozen?_drew]; assumption))
        · (first | (simp only [frozen?_alloc_cells, World.frozen?_setCell]; assumption) | (simp only [frozen?_alloc_cells, World.frozen?_setCell, World.frozen?_drew]; assumption))
        · show _ = some (Value.bool false)
          (repeat first | with_reducible assumption | (with_reducible refine (World.cell?_alloc_lt _ _ _ ?side).trans ?_; case side => (first | omega | (simp; done) | (simp; omega))) | with_reducible refine World.cell?_setCell_same' _ _ _ ?_ | (with_reducible refine (World.cell?_setCell_other _ _ _ _ ?side).trans ?_; case side => (simp; done)) | with_reducible refine some_set ?_ | with_reducible exact some_of (by assumption))
        · (first | (simp only [frozen?_alloc_cells, World.frozen?_setCell]; assumption) | (simp only [frozen?_alloc_cells, World.frozen?_setCell, World.frozen?_drew]; assumption))
        · refine hq3.out.keep ?_ ?_ (HPI.out.later (by (repeat first | with_reducible assumption | with_reducible exact Below.refl _ _ | (with_reducible refine Below.alloc ?_ ?side _; case side => (first | omega | (with_reducible exact Below.size (by assumption)) | (simp; done) | (simp; omega))) | (with_reducible refine Below.setCell ?_ ?side _; case side => (first | omega | (with_reducible exact Below.size (by assumption)) | (simp; done) | (simp; omega))) | with_reducible refine Below.drew ?_ | with_reducible refine below_drewN ?_ _ | (with_reducible refine below_step (by assumption) ?side ?_; case side => (first | omega | (with_reducible exact Below.size (by assumption)) | (simp; done) | (simp; omega)))))) (HLI.out.later (by (repeat first | with_reducible assumption | with_reducible exact Below.refl _ _ | (with_reducible refine Below.alloc ?_ ?side _; case side => (first | omega | (with_reducible exact Below.size (by assumption)) | (simp; done) | (simp; omega))) | (with_reducible refine Below.setCell ?_ ?side _; case side => (first | omega | (with_reducible exact Below.size (by assumption)) | (simp; done) | (simp; omega))) | with_reducible refine Below.drew ?_ | with_reducible refine below_drewN ?_ _ | (with_reducible refine below_step (by assumption) ?side ?_; case side => (first | omega | (with_reducible exact Below.size (by assumption)) | (simp; done) | (simp; omega))))))
          · repeat first | with_reducible rfl | (with_reducible refine (Below.heap_alloc _ _ _ ?side).trans ?_; case side => (first | omega | (simp; omega))) | (with_reducible refine (Below.heap_setCell _ _ _ _ ?side).trans ?_; case side => (first | omega | (simp; omega)))
          · repeat first | with_reducible rfl | (with_reducible refine (Below.heap_alloc _ _ _ ?side).trans ?_; case side => (first | omega | (simp; omega))) | (with_reducible refine (Below.heap_setCell _ _ _ _ ?side).trans ?_; case side => (first | omega | (simp; omega)))
  case hdone =>
    rintro D W hD ⟨a0, a1, a2, a3, a4, a5, a6, r3, r4, r5, r6, a7, a8, a9⟩ hK
    rw [show (netSets np nl pl ls (min wrg nl)).length = (truthSets np nl pl ls wrg).length from rfl, hhk.out, List.take_length] at a3 a4
    have zz := a1.size
    clear a0 a9 a7
    gi_wp2
    obtain ⟨c1, c2⟩ := two_cells (u := .int .i64 (endsB np nl pl ls wrg i).lo) (v := .int .i64 (endsB np nl pl ls wrg i).hi) (by simp) r3 r4
    refine leave_mark (v := .agg #[.int .i64 (endsB np nl pl ls wrg i).lo, .int .i64 (endsB np nl pl ls wrg i).hi]) (keeps_mark (B := w2.heap.size) (W := W) (by (repeat first | with_reducible assumption | with_reducible exact KeepsFrom.refl _ _ | refine keeps_drewN ?_ _ | refine keeps_drew ?_ | refine keeps_alloc ?_ _ | refine keeps_setCell ?_ _ _ | refine keeps_step (by assumption) (Nat.le_refl _) ?_)) hD hK) (fun W' ht => ?_) (fun W' ht => ⟨rfl, ht.below (by omega) (by simp; omega) (by (repeat first | with_reducible assumption | with_reducible exact Below.refl _ _ | refine below_drewN ?_ _ | refine Below.drew ?_ | refine Below.alloc ?_ (by first | omega | (with_reducible exact Below.size (by assumption)) | (simp; done) | (simp; omega)) _ | refine Below.setCell ?_ (by first | omega | (with_reducible exact Below.size (by assumption)) | (simp; done) | (simp; omega)) _ | refine below_step (by assumption) (by first | omega | (with_reducible exact Below.size (by assumption)) | (simp; done) | (simp; omega)) ?_))⟩)
    have d1 := ht.cell c1
    have d2 := ht.cell c2
    simp [results, Try.results39, go_sem, d1, d2]
  case hstop => rintro D c W hD h; exact h.elim

end Go.Proofs.Ytdhlnlmhdacblaa
