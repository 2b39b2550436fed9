/- The net of a book (layer 11): flow. -/
import Derived.StillTailTactics
import Derived.Test.YtdhlnlmhdacblaaTs32
namespace Go.Proofs.Ytdhlnlmhdacblaa
open Go.RowKit
open Go.Sort (grow)
set_option linter.unusedVariables false
set_option linter.unusedSimpArgs false

theorem calls_same {P : Program} {f : FuncId} {args : Array Value} {w : World} {v : Value} (h : Calls P f args w fun e w' => e = .returned v ∧ w = w') : Calls P f args w fun e w' => e = .returned v ∧ w' = w :=
  h.mono fun _ _ ⟨a, b⟩ => ⟨a, b.symm⟩

theorem two_set {w : World} {b : Nat} {a0 a1 v0 v1 : Value} (h : ∀ j, w.cell? ⟨b, j, none⟩ = #[a0, a1][j]?) (j : Nat) :
    ((w.setCell ⟨b, 0, none⟩ v0).setCell ⟨b, 1, none⟩ v1).cell? ⟨b, j, none⟩ = #[v0, v1][j]? := by
  have d : (w.setCell ⟨b, 0, none⟩ v0).cell? ⟨b, 1, none⟩ = some a1 := by
    rw [World.cell?_setCell_other _ _ _ _ (by simp)]; exact h 1
  match j with
  | 0 => rw [World.cell?_setCell_other _ _ _ _ (by simp)]; exact World.cell?_setCell_same _ _ _ (h 0)
  | 1 => exact World.cell?_setCell_same _ _ _ d
  | j + 2 => rw [World.cell?_setCell_other _ _ _ _ (by simp), World.cell?_setCell_other _ _ _ _ (by simp), h]; rfl

/-- the pipes of line number i: its weight, and its scale -/
def flLn (ws : Nat → Bool) (i : Nat) (l : Ln) : List Pp :=
  [⟨nodeZ l.fr, nodeZ l.to, bif ws i then l.s.hi else l.w.lo, bif ws i then 999 else l.w.hi⟩, ⟨nodeZ l.to, 6, l.s.lo, l.s.hi⟩]
def flTo (ls : List Ln) (ws : Nat → Bool) (k : Nat) : List Pp := (List.range k).flatMap fun i => flLn ws i (lnAt ls i)
def flPl (pl : List Sp) (k : Nat) : List Pp := (List.range k).map fun i : Nat => ⟨(i : Int), 5, (spAt pl i).lo, (spAt pl i).hi⟩
def flowL (np nl : Nat) (pl : List Sp) (ls : List Ln) (ws : Nat → Bool) : List Pp := flTo ls ws nl ++ flPl pl np ++ [⟨6, 5, 0, nl * 999⟩]

theorem flTo_len (ls : List Ln) (ws : Nat → Bool) (k : Nat) : (flTo ls ws k).length = 2 * k := by
  induction k with
  | zero => rfl
  | succ k ih => rw [flTo, List.range_succ, List.flatMap_append, List.length_append]; rw [flTo] at ih; rw [ih]; simp [flLn]; omega
theorem flTo_succ (ls : List Ln) (ws : Nat → Bool) (k : Nat) : flTo ls ws (k + 1) = flTo ls ws k ++ flLn ws k (lnAt ls k) := by
  simp [flTo, List.range_succ]
theorem flPl_succ (pl : List Sp) (k : Nat) : flPl pl (k + 1) = flPl pl k ++ [⟨k, 5, (spAt pl k).lo, (spAt pl k).hi⟩] := by
  simp [flPl, List.range_succ]

set_option maxRecDepth 100000 in
set_option maxHeartbeats 800000 in
theorem flow_c (Ap Al : Option Addr) (np cp nl cl g : Nat) (wrg : Int) (fst cap : Array Value) (ws : Nat → Bool) (pl : List Sp) (ls : List Ln) (w : World) (hp : np ≤ 5) (hl : nl ≤ 8) (HP : SpsAt w Ap np pl) (HL : LnsAt w Al nl ls)
    (HE : ∀ args w, (callFunc g args).run Try.prog w = .ok (.enter g args) w)
    (HF : ∀ k, k < nl → ∀ w', Below w.heap.size w w' → Calls Try.prog g (fst.push (.int .i64 k) ++ cap) w' fun e w'' => e = .returned (.bool (ws k)) ∧ Below w'.heap.size w' w'') :
    Calls Try.prog 65 #[.agg #[.slice Ap np cp, .slice Al nl cl, .int .i64 wrg], .func (.func g) fst cap] w
      fun e w' => ∃ A' c', e = .returned (.slice A' (2 * nl + np + 1) c') ∧ PpsAt w' A' (2 * nl + np + 1) (flowL np nl pl ls ws) ∧ Below w.heap.size w w' := by
  have HPI := Lib.hid HP
  have HLI := Lib.hid HL
  have HFI := Lib.hid HF
  clear HP HL HF
  go_enter Try.func65, Try.ntmps65
  go_wp2
  go_name_world W hW
  obtain ⟨hB, hz⟩ := al1 hW
  obtain ⟨l_0, q_0, f_0⟩ := al1_0 hW
  have HZ := Lib.hid hz
  have zs := hB.size
  clear hW hz
  have W_ := Lib.hid (World.ownsRow_nil W W.heap.size 117 4)
  go_loopw [5, 14] (fun v i (wr : World) => ∃ k : Nat, k ≤ nl ∧ i = .int .i64 k ∧ Hid (wr.ownsRow W.heap.size 117 4 v (2 * k) ((flTo ls ws k).flatMap encP_q11)) ∧ Below W.heap.size W wr) (fun _ i _ => nl - (intOf i).toNat)
  case atStart => exact ⟨0, by omega, rfl, W_.out, Below.refl _ _⟩
  case round =>
    obtain ⟨k, hk, rfl, HO, hb⟩ := hrel
    obtain ⟨hc, hf⟩ := bcell hb
    have zb := hb.size
    have m0 := Nat.lt_of_lt_of_le l_0 zb
    by_cases hlt : k < nl
    · have hbw : Below w.heap.size w wr := by (repeat first | with_reducible assumption | with_reducible exact Below.refl _ _ | refine below_drewN ?_ _ | refine Below.drew ?_ | refine Below.alloc ?_ (by first | omega | (with_reducible exact Below.size (by assumption)) | (simp; done) | (simp; omega)) _ | refine Below.setCell ?_ (by first | omega | (with_reducible exact Below.size (by assumption)) | (simp; done) | (simp; omega)) _ | refine below_step (by assumption) (by first | omega | (with_reducible exact Below.size (by assumption)) | (simp; done) | (simp; omega)) ?_)
      obtain ⟨bl, ol, rfl, hbl, x0, x1, x2, x3, x4, x5⟩ := (HLI.out.later hbw).get hlt
      cases e1 : ws k
      all_goals
        go_wp2_with fail
        refine (HFI.out k hlt _ (by (repeat first | with_reducible assumption | with_reducible exact Below.refl _ _ | refine below_drewN ?_ _ | refine Below.drew ?_ | refine Below.alloc ?_ (by first | omega | (with_reducible exact Below.size (by assumption)) | (simp; done) | (simp; omega)) _ | refine Below.setCell ?_ (by first | omega | (with_reducible exact Below.size (by assumption)) | (simp; done) | (simp; omega)) _ | refine below_step (by assumption) (by first | omega | (with_reducible exact Below.size (by assumption)) | (simp; done) | (simp; omega)) ?_))).mono ?_
        rw [e1]
        (rintro e w1 ⟨rfl, hb1⟩; obtain ⟨hc1, hf1⟩ := bcell hb1; have zs1 := hb1.size; (try simp at zs1))
        have p1_0 := fun j => (hc1 (wr.heap.size) j (by first | omega | (simp; done) | (simp; omega))).trans ((al2_0 rfl).2.1 j)
        have n1_0 : wr.heap.size < w1.heap.size := by omega
        have p1_1 := fun j => (hc1 (wr.heap.size + 1) j (by first | omega | (simp; done) | (simp; omega))).trans ((al2_1 rfl).2.1 j)
        have n1_1 : wr.heap.size + 1 < w1.heap.size := by omega
        have n2 : w.heap.size < w1.heap.size := by omega
        go_wp2
      · obtain ⟨W8, rfl⟩ : ∃ W8 : World, W8 = w1 := ⟨_, rfl⟩
        have y7 := p1_0
        have y8 := p1_1
        have hb8 : Below wr.heap.size wr W8 := by (repeat first | with_reducible assumption | with_reducible exact Below.refl _ _ | refine below_drewN ?_ _ | refine Below.drew ?_ | refine Below.alloc ?_ (by first | omega | (with_reducible exact Below.size (by assumption)) | (simp; done) | (simp; omega)) _ | refine Below.setCell ?_ (by first | omega | (with_reducible exact Below.size (by assumption)) | (simp; done) | (simp; omega)) _ | refine below_step (by assumption) (by first | omega | (with_reducible exact Below.size (by assumption)) | (simp; done) | (simp; omega)) ?_)
        have Y7 : wr.heap.size < W8.heap.size ∧ wr.heap.size + 1 < W8.heap.size := ⟨n1_0, n1_1⟩
        clear hc1 hf1 hb1 p1_0 p1_1 n1_0 n1_1 zs1
        have z8 := hb8.size
        have ow := Lib.hid (own_below HO.out hb8)
        have HN : Hid (∀ b, wr.heap.size ≤ b → some b ≠ u5.ownBlock) := fun b hb e => absurd (HO.out.lt b e.symm).2 (by omega)
        have t0 : wr.heap.size < W8.heap.size := Y7.1
        have t1 : wr.heap.size + 1 < W8.heap.size := Y7.2
        go_region_held3 (fun w' => w'.cell? ⟨wr.heap.size, 0, none⟩ = some (.int .i64 (lnAt ls k).fr) ∧ w'.cell? ⟨wr.heap.size, 1, none⟩ = some (.int .i64 (lnAt ls k).to) ∧ w'.cell? ⟨wr.heap.size, 4, none⟩ = some (.int .i64 (lnAt ls k).s.lo) ∧ w'.cell? ⟨wr.heap.size, 5, none⟩ = some (.int .i64 (lnAt ls k).s.hi) ∧ w'.cell? ⟨wr.heap.size + 1, 0, none⟩ = some (.int .i64 (lnAt ls k).w.lo) ∧ w'.cell? ⟨wr.heap.size + 1, 1, none⟩ = some (.int .i64 (lnAt ls k).w.hi))
          (first | exact ⟨y7 0, y7 1, y7 4, y7 5, y8 0, y8 1⟩ | exact ⟨(k2 _ 0 (Nat.le_refl _) t0).trans (y7 0), (k2 _ 1 (Nat.le_refl _) t0).trans (y7 1), (k2 _ 4 (Nat.le_refl _) t0).trans (y7 4), (k2 _ 5 (Nat.le_refl _) t0).trans (y7 5), (k2 _ 0 (Nat.le_succ _) t1).trans (y8 0), (k2 _ 1 (Nat.le_succ _) t1).trans (y8 1)⟩ | go_keep)
          (first | (go_at_call 81; refine (node_c _ _).mono ?_; rintro e w' ⟨rfl, rfl⟩) | (refine step_append_T _ (d := (⟨0, 0, 0, 0⟩ : Pp)) rfl (.tmp 28) (.tmp 43) _ rfl W.heap.size _ 4 32 ppE encP_len_q11 encP_one_q11 u5 u5.ownBlock (2 * k) (flTo ls ws k) rfl rfl ?_ _ 2 _ (flLn ws k (lnAt ls k)) rfl ?_ ?_ ?_ ?_; (exact own_below ow.out (by (repeat first | with_reducible assumption | with_reducible exact Below.refl _ _ | refine below_drewN ?_ _ | refine Below.drew ?_ | refine Below.alloc ?_ (by first | omega | (with_reducible exact Below.size (by assumption)) | (simp; done) | (simp; omega)) _ | refine Below.setCell ?_ (by first | omega | (with_reducible exact Below.size (by assumption)) | (simp; done) | (simp; omega)) _ | refine below_step (by assumption) (by first | omega | (with_reducible exact Below.size (by assumption)) | (simp; done) | (simp; omega)) ?_))); (exact sl_new encP_len_q11 (by simp) rfl (by simp [flLn, encP_q11, e1])); omega; (simp; omega); (intro v' w2 hown2 hg2 hat2; have k2 := fun (b j : Nat) (hb : wr.heap.size ≤ b) (hl : b < W8.heap.size) => (World.cell?_of_block (a := ⟨b, j, none⟩) (hg2.block b (by simp; omega) (HN.out b hb))).trans (World.cell?_alloc_lt _ _ ⟨b, j, none⟩ hl))))
        have e2 : 2 * k + 2 = 2 * (k + 1) := by omega
        have e3 := hown2
        rw [← flTo_succ, e2] at e3
        have z2 := hg2.size
        simp at z2
        have hb9 : Below W.heap.size W w2 := Below.grown (by (repeat first | with_reducible assumption | with_reducible exact Below.refl _ _ | refine below_drewN ?_ _ | refine Below.drew ?_ | refine Below.alloc ?_ (by first | omega | (with_reducible exact Below.size (by assumption)) | (simp; done) | (simp; omega)) _ | refine Below.setCell ?_ (by first | omega | (with_reducible exact Below.size (by assumption)) | (simp; done) | (simp; omega)) _ | refine below_step (by assumption) (by first | omega | (with_reducible exact Below.size (by assumption)) | (simp; done) | (simp; omega)) ?_)) hg2 (by simp; omega) (own_ge HO.out)
        clear k2 hg2 hat2 hown2 e2
        go_wp2
        go_roundw
        case rel => exact ⟨k + 1, by omega, by go_num, e3, hb9⟩
        case measure => simp [intOf]; omega
      · go_name_world W8 hW8
        have y7 : ∀ j, W8.cell? ⟨wr.heap.size, j, none⟩ = #[Value.int .i64 (lnAt ls k).fr, .int .i64 (lnAt ls k).to, .int .i64 (lnAt ls k).w.lo, .int .i64 (lnAt ls k).w.hi, .int .i64 (lnAt ls k).s.lo, .int .i64 (lnAt ls k).s.hi][j]? := fun j => by
          rw [← hW8, World.cell?_setCell_other _ _ _ _ (by simp), World.cell?_setCell_other _ _ _ _ (by simp), p1_0]
        have y8 : ∀ j, W8.cell? ⟨wr.heap.size + 1, j, none⟩ = #[Value.int .i64 (lnAt ls k).s.hi, .int .i64 999][j]? := fun j => by
          rw [← hW8]; exact two_set (fun j => p1_1 j) j
        have hb8 : Below wr.heap.size wr W8 := by rw [← hW8]; (repeat first | with_reducible assumption | with_reducible exact Below.refl _ _ | refine below_drewN ?_ _ | refine Below.drew ?_ | refine Below.alloc ?_ (by first | omega | (with_reducible exact Below.size (by assumption)) | (simp; done) | (simp; omega)) _ | refine Below.setCell ?_ (by first | omega | (with_reducible exact Below.size (by assumption)) | (simp; done) | (simp; omega)) _ | refine below_step (by assumption) (by first | omega | (with_reducible exact Below.size (by assumption)) | (simp; done) | (simp; omega)) ?_)
        have Y7 : wr.heap.size < W8.heap.size ∧ wr.heap.size + 1 < W8.heap.size := by rw [← hW8]; simp; omega
        clear hW8
        clear hc1 hf1 hb1 p1_0 p1_1 n1_0 n1_1 zs1
        have z8 := hb8.size
        have ow := Lib.hid (own_below HO.out hb8)
        have HN : Hid (∀ b, wr.heap.size ≤ b → some b ≠ u5.ownBlock) := fun b hb e => absurd (HO.out.lt b e.symm).2 (by omega)
        have t0 : wr.heap.size < W8.heap.size := Y7.1
        have t1 : wr.heap.size + 1 < W8.heap.size := Y7.2
        go_region_held3 (fun w' => w'.cell? ⟨wr.heap.size, 0, none⟩ = some (.int .i64 (lnAt ls k).fr) ∧ w'.cell? ⟨wr.heap.size, 1, none⟩ = some (.int .i64 (lnAt ls k).to) ∧ w'.cell? ⟨wr.heap.size, 4, none⟩ = some (.int .i64 (lnAt ls k).s.lo) ∧ w'.cell? ⟨wr.heap.size, 5, none⟩ = some (.int .i64 (lnAt ls k).s.hi) ∧ w'.cell? ⟨wr.heap.size + 1, 0, none⟩ = some (.int .i64 (lnAt ls k).s.hi) ∧ w'.cell? ⟨wr.heap.size + 1, 1, none⟩ = some (.int .i64 999))
          (first | exact ⟨y7 0, y7 1, y7 4, y7 5, y8 0, y8 1⟩ | exact ⟨(k2 _ 0 (Nat.le_refl _) t0).trans (y7 0), (k2 _ 1 (Nat.le_refl _) t0).trans (y7 1), (k2 _ 4 (Nat.le_refl _) t0).trans (y7 4), (k2 _ 5 (Nat.le_refl _) t0).trans (y7 5), (k2 _ 0 (Nat.le_succ _) t1).trans (y8 0), (k2 _ 1 (Nat.le_succ _) t1).trans (y8 1)⟩ | go_keep)
          (first | (go_at_call 81; refine (node_c _ _).mono ?_; rintro e w' ⟨rfl, rfl⟩) | (refine step_append_T _ (d := (⟨0, 0, 0, 0⟩ : Pp)) rfl (.tmp 28) (.tmp 43) _ rfl W.heap.size _ 4 32 ppE encP_len_q11 encP_one_q11 u5 u5.ownBlock (2 * k) (flTo ls ws k) rfl rfl ?_ _ 2 _ (flLn ws k (lnAt ls k)) rfl ?_ ?_ ?_ ?_; (exact own_below ow.out (by (repeat first | with_reducible assumption | with_reducible exact Below.refl _ _ | refine below_drewN ?_ _ | refine Below.drew ?_ | refine Below.alloc ?_ (by first | omega | (with_reducible exact Below.size (by assumption)) | (simp; done) | (simp; omega)) _ | refine Below.setCell ?_ (by first | omega | (with_reducible exact Below.size (by assumption)) | (simp; done) | (simp; omega)) _ | refine below_step (by assumption) (by first | omega | (with_reducible exact Below.size (by assumption)) | (simp; done) | (simp; omega)) ?_))); (exact sl_new encP_len_q11 (by simp) rfl (by simp [flLn, encP_q11, e1])); omega; (simp; omega); (intro v' w2 hown2 hg2 hat2; have k2 := fun (b j : Nat) (hb : wr.heap.size ≤ b) (hl : b < W8.heap.size) => (World.cell?_of_block (a := ⟨b, j, none⟩) (hg2.block b (by simp; omega) (HN.out b hb))).trans (World.cell?_alloc_lt _ _ ⟨b, j, none⟩ hl))))
        have e2 : 2 * k + 2 = 2 * (k + 1) := by omega
        have e3 := hown2
        rw [← flTo_succ, e2] at e3
        have z2 := hg2.size
        simp at z2
        have hb9 : Below W.heap.size W w2 := Below.grown (by (repeat first | with_reducible assumption | with_reducible exact Below.refl _ _ | refine below_drewN ?_ _ | refine Below.drew ?_ | refine Below.alloc ?_ (by first | omega | (with_reducible exact Below.size (by assumption)) | (simp; done) | (simp; omega)) _ | refine Below.setCell ?_ (by first | omega | (with_reducible exact Below.size (by assumption)) | (simp; done) | (simp; omega)) _ | refine below_step (by assumption) (by first | omega | (with_reducible exact Below.size (by assumption)) | (simp; done) | (simp; omega)) ?_)) hg2 (by simp; omega) (own_ge HO.out)
        clear k2 hg2 hat2 hown2 e2
        go_wp2
        go_roundw
        case rel => exact ⟨k + 1, by omega, by go_num, e3, hb9⟩
        case measure => simp [intOf]; omega
    · obtain rfl : nl = k := by omega
      clear hc hf zb m0
      have m0 : w.heap.size < wr.heap.size := Nat.lt_of_lt_of_le l_0 hb.size
      have qw : ∀ j, wr.cell? ⟨w.heap.size, j, none⟩ = #[Value.slice Ap np cp, .slice Al nl cl, .int .i64 wrg][j]? := fun j => (hb.cell (p := ⟨w.heap.size, j, none⟩) l_0).trans (q_0 j)
      go_wp2
      obtain ⟨wo, rfl⟩ : ∃ wo : World, wo = wr := ⟨_, rfl⟩
      have HO0 := HO
      go_loopw [5, 49] (fun v i (wr : World) => ∃ k : Nat, k ≤ np ∧ i = .int .i64 k ∧ Hid (wr.ownsRow W.heap.size 117 4 v (2 * nl + k) ((flTo ls ws nl ++ flPl pl k).flatMap encP_q11)) ∧ Below W.heap.size W wr) (fun _ i _ => np - (intOf i).toNat)
      case atStart => exact ⟨0, by omega, rfl, by have := HO0.out; rw [flPl, List.range_zero, List.map_nil, List.append_nil]; exact this, hb⟩
      case round =>
        obtain ⟨k, hk, rfl, HO1, hb1⟩ := hrel
        obtain ⟨hc1, hf1⟩ := bcell hb1
        have zb1 := hb1.size
        have m1 := Nat.lt_of_lt_of_le l_0 zb1
        by_cases hkn : k < np
        · have hbw : Below w.heap.size w wr := by (repeat first | with_reducible assumption | with_reducible exact Below.refl _ _ | refine below_drewN ?_ _ | refine Below.drew ?_ | refine Below.alloc ?_ (by first | omega | (with_reducible exact Below.size (by assumption)) | (simp; done) | (simp; omega)) _ | refine Below.setCell ?_ (by first | omega | (with_reducible exact Below.size (by assumption)) | (simp; done) | (simp; omega)) _ | refine below_step (by assumption) (by first | omega | (with_reducible exact Below.size (by assumption)) | (simp; done) | (simp; omega)) ?_)
          obtain ⟨bp, op, rfl, hbp, x0, x1⟩ := (HPI.out.later hbw).get hkn
          go_wp2_with (at_builtin; go_must (refine wpList_append_T (d := (⟨0, 0, 0, 0⟩ : Pp)) _ rfl (.tmp 54) (.tmp 58) _ rfl W.heap.size _ 4 32 ppE encP_len_q11 encP_one_q11 u5 u5.ownBlock (2 * nl + k) (flTo ls ws nl ++ flPl pl k) rfl rfl ?_ _ 1 _ [⟨(k : Int), 5, (spAt pl k).lo, (spAt pl k).hi⟩] rfl ?_ ?_ ?_ ?_; (exact own_below HO1.out (by (repeat first | with_reducible assumption | with_reducible exact Below.refl _ _ | refine below_drewN ?_ _ | refine Below.drew ?_ | refine Below.alloc ?_ (by first | omega | (with_reducible exact Below.size (by assumption)) | (simp; done) | (simp; omega)) _ | refine Below.setCell ?_ (by first | omega | (with_reducible exact Below.size (by assumption)) | (simp; done) | (simp; omega)) _ | refine below_step (by assumption) (by first | omega | (with_reducible exact Below.size (by assumption)) | (simp; done) | (simp; omega)) ?_))); (exact sl_new encP_len_q11 (by simp) rfl (by simp [encP_q11])); omega; (simp; omega); (intro v' w2 hown2 hg2 hat2; rw [List.append_assoc, ← flPl_succ] at hown2; have HO2 := Lib.hid hown2; have hb2 : Below W.heap.size W w2 := (Below.grown (by (repeat first | with_reducible assumption | with_reducible exact Below.refl _ _ | refine below_drewN ?_ _ | refine Below.drew ?_ | refine Below.alloc ?_ (by first | omega | (with_reducible exact Below.size (by assumption)) | (simp; done) | (simp; omega)) _ | refine Below.setCell ?_ (by first | omega | (with_reducible exact Below.size (by assumption)) | (simp; done) | (simp; omega)) _ | refine below_step (by assumption) (by first | omega | (with_reducible exact Below.size (by assumption)) | (simp; done) | (simp; omega)) ?_)) hg2 (by simp; omega) (own_ge HO1.out)); clear hown2 hg2 hat2)))
          go_roundw
          case rel => exact ⟨k + 1, by omega, by go_num, by have := HO2.out; rw [Nat.add_assoc] at this; exact this, hb2⟩
          case measure => simp [intOf]; omega
        · obtain rfl : np = k := by omega
          have hbw : Below w.heap.size w wr := by (repeat first | with_reducible assumption | with_reducible exact Below.refl _ _ | refine below_drewN ?_ _ | refine Below.drew ?_ | refine Below.alloc ?_ (by first | omega | (with_reducible exact Below.size (by assumption)) | (simp; done) | (simp; omega)) _ | refine Below.setCell ?_ (by first | omega | (with_reducible exact Below.size (by assumption)) | (simp; done) | (simp; omega)) _ | refine below_step (by assumption) (by first | omega | (with_reducible exact Below.size (by assumption)) | (simp; done) | (simp; omega)) ?_)
          go_wp2_with (at_builtin; go_must (refine wpList_append_T (d := (⟨0, 0, 0, 0⟩ : Pp)) _ rfl (.tmp 61) (.tmp 68) _ rfl W.heap.size _ 4 32 ppE encP_len_q11 encP_one_q11 u5 u5.ownBlock (2 * nl + np) (flTo ls ws nl ++ flPl pl np) rfl rfl ?_ _ 1 _ [⟨6, 5, 0, nl * 999⟩] rfl ?_ ?_ ?_ ?_; (exact own_below HO1.out (by (repeat first | with_reducible assumption | with_reducible exact Below.refl _ _ | refine below_drewN ?_ _ | refine Below.drew ?_ | refine Below.alloc ?_ (by first | omega | (with_reducible exact Below.size (by assumption)) | (simp; done) | (simp; omega)) _ | refine Below.setCell ?_ (by first | omega | (with_reducible exact Below.size (by assumption)) | (simp; done) | (simp; omega)) _ | refine below_step (by assumption) (by first | omega | (with_reducible exact Below.size (by assumption)) | (simp; done) | (simp; omega)) ?_))); (exact sl_new encP_len_q11 (by simp) rfl (by simp [encP_q11])); omega; (simp; omega); (intro v' w2 hown2 hg2 hat2; have HO2 := Lib.hid hown2; have hb2 : Below W.heap.size W w2 := (Below.grown (by (repeat first | with_reducible assumption | with_reducible exact Below.refl _ _ | refine below_drewN ?_ _ | refine Below.drew ?_ | refine Below.alloc ?_ (by first | omega | (with_reducible exact Below.size (by assumption)) | (simp; done) | (simp; omega)) _ | refine Below.setCell ?_ (by first | omega | (with_reducible exact Below.size (by assumption)) | (simp; done) | (simp; omega)) _ | refine below_step (by assumption) (by first | omega | (with_reducible exact Below.size (by assumption)) | (simp; done) | (simp; omega)) ?_)) hg2 (by simp; omega) (own_ge HO1.out)); clear hown2 hg2 hat2)))
          obtain ⟨A1, c1, e1, -, hs1⟩ := SlAt.of_own (d := (⟨0, 0, 0, 0⟩ : Pp)) encP_len_q11 HO2.out (by simp [flTo_len, flPl]; omega)
          have hs2 : PpsAt w2 A1 (2 * nl + np + 1) (flowL np nl pl ls ws) := hs1
          have hbE : Below w.heap.size w w2 := by (repeat first | with_reducible assumption | with_reducible exact Below.refl _ _ | refine below_drewN ?_ _ | refine Below.drew ?_ | refine Below.alloc ?_ (by first | omega | (with_reducible exact Below.size (by assumption)) | (simp; done) | (simp; omega)) _ | refine Below.setCell ?_ (by first | omega | (with_reducible exact Below.size (by assumption)) | (simp; done) | (simp; omega)) _ | refine below_step (by assumption) (by first | omega | (with_reducible exact Below.size (by assumption)) | (simp; done) | (simp; omega)) ?_)
          rw [e1]
          go_ret
          exact ⟨A1, c1, rfl, hs2, hbE⟩

end Go.Proofs.Ytdhlnlmhdacblaa
