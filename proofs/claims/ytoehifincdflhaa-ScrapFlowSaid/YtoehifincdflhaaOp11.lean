/- open of the specification (layer 11): a book's net. -/
import Derived.Test.YtoehifincdflhaaEx11
import Derived.Test.YtoehifincdflhaaRs11
namespace Go.Proofs.Ytoehifincdflhaa
open Go.RowKit
open Go.Sort (grow)
set_option linter.unusedVariables false

def rwB (loose i : Nat) (l : Ln) : Sp := bif loose.testBit i then ⟨l.s.hi, 999⟩ else l.w
def opLn (np loose i : Nat) (l : Ln) : List Pp := [⟨l.fr, l.to, (rwB loose i l).lo, (rwB loose i l).hi⟩, ⟨l.to, np, l.s.lo, l.s.hi⟩]
def opTo (np : Nat) (ls : List Ln) (loose k : Nat) : List Pp := (List.range k).flatMap fun i => opLn np loose i (lnAt ls i)
def opSt (pl : List Sp) : List Sp := pl ++ [⟨0, 7992⟩]
theorem opTo_len (np : Nat) (ls : List Ln) (loose k : Nat) : (opTo np ls loose k).length = 2 * k := by
  induction k with
  | zero => rfl
  | succ k ih => rw [opTo, List.range_succ, List.flatMap_append, List.length_append]; rw [opTo] at ih; rw [ih]; simp [opLn]; omega
theorem opTo_succ (np : Nat) (ls : List Ln) (loose k : Nat) : opTo np ls loose (k + 1) = opTo np ls loose k ++ opLn np loose k (lnAt ls k) := by
  simp [opTo, List.range_succ, List.flatMap_append]
theorem pr_info : (Try.prog.info? 110).map (fun i => (i.zero, i.size, i.bytes)) = some (some (.agg #[.int .i64 0, .int .i64 0, .int .i64 0, .int .i64 0]), 4, 32) := by kernel_rfl
theorem prE : ElemT Try.prog 97 110 4 32 := by
  obtain ⟨i0, hi0, hz0, hz1, hz2⟩ := info_parts pr_info
  exact ⟨Try.underlying97, ⟨i0, _, hi0, hz0, hz1, hz2, rfl⟩, by omega, by omega⟩

theorem bit_test (s n : Nat) : (bits .and .i64 ((s : Int) / 2 ^ n) 1 == 1) = s.testBit n := by
  rw [i64_and1, show ((s : Int) / 2 ^ n) = ((s / 2 ^ n : Nat) : Int) by simp]
  have e : s.testBit n = (s / 2 ^ n % 2 == 1) := by
    rw [Nat.testBit, Nat.shiftRight_eq_div_pow, Nat.and_comm 1, Nat.and_one_is_mod]
    have : s / 2 ^ n % 2 = 0 ∨ s / 2 ^ n % 2 = 1 := by omega
    rcases this with h | h <;> rw [h] <;> rfl
  rw [e]
  rcases (by omega : s / 2 ^ n % 2 = 0 ∨ s / 2 ^ n % 2 = 1) with h | h
  · rw [h, show ((s / 2 ^ n : Nat) : Int) % 2 = ((s / 2 ^ n % 2 : Nat) : Int) from rfl, h]; rfl
  · rw [h, show ((s / 2 ^ n : Nat) : Int) % 2 = ((s / 2 ^ n % 2 : Nat) : Int) from rfl, h]; rfl
set_option maxRecDepth 100000 in
set_option maxHeartbeats 3200000 in
theorem open_c (Ap Al : Option Addr) (np cp nl cl s : Nat) (wrg : Int) (pl : List Sp) (ls : List Ln) (w : World) (hp : np ≤ 40) (hl : nl ≤ 40) (hs : s < 65536) (HP : SpsAt w Ap np pl) (HL : LnsAt w Al nl ls) :
    Calls Try.prog 76 #[.agg #[.slice Ap np cp, .slice Al nl cl, .int .i64 wrg], .int .i64 s] w
      fun e w' => ∃ A1 c1 A2 c2, e = .returned (.agg #[.slice A1 (2 * nl) c1, .slice A2 (np + 1) c2]) ∧ PpsAt w' A1 (2 * nl) (opTo np ls s nl) ∧ SpsAt w' A2 (np + 1) (opSt pl) ∧ Below w.heap.size w w' := by
  have HPI := Lib.hid HP
  have HLI := Lib.hid HL
  have hpl := HP.1
  clear HP HL
  go_enter Try.func76, Try.ntmps76
  go_wp2_with (at_builtin; go_must (first | (refine wpList_append_T _ (d := (⟨0, 0⟩ : Sp)) rfl (.tmp 13) (.tmp 15) _ rfl (w.heap.size + 1 + 1) _ 2 16 spE encS_len encS_one _ (some (w.heap.size + 1 + 1)) 0 [] rfl rfl (own_empty ?aa ?bb) Ap np cp pl rfl (sps_iff.1 (HPI.out.later (by (repeat first | with_reducible assumption | with_reducible exact Below.refl _ _ | (with_reducible refine Below.alloc ?_ ?side _; case side => (first | omega | (with_reducible exact Below.size (by assumption)) | (simp; done) | (simp; omega))) | (with_reducible refine Below.setCell ?_ ?side _; case side => (first | omega | (with_reducible exact Below.size (by assumption)) | (simp; done) | (simp; omega))) | with_reducible refine Below.drew ?_ | with_reducible refine below_drewN ?_ _ | (with_reducible refine below_step (by assumption) ?side ?_; case side => (first | omega | (with_reducible exact Below.size (by assumption)) | (simp; done) | (simp; omega))))))) (by omega) (by first | omega | (simp; done) | (simp; omega)) ?_; (case aa => (first | omega | (simp; done) | (simp; omega))); (case bb => (first | omega | (simp; done) | (simp; omega))); intro v1 w1 hown1 hg1 hat1; rw [Nat.zero_add, List.nil_append] at hown1; have HO1 := Lib.hid hown1; have hb1 : Below w.heap.size w w1 := (Below.grown (by (repeat first | with_reducible assumption | with_reducible exact Below.refl _ _ | (with_reducible refine Below.alloc ?_ ?side _; case side => (first | omega | (with_reducible exact Below.size (by assumption)) | (simp; done) | (simp; omega))) | (with_reducible refine Below.setCell ?_ ?side _; case side => (first | omega | (with_reducible exact Below.size (by assumption)) | (simp; done) | (simp; omega))) | with_reducible refine Below.drew ?_ | with_reducible refine below_drewN ?_ _ | (with_reducible refine below_step (by assumption) ?side ?_; case side => (first | omega | (with_reducible exact Below.size (by assumption)) | (simp; done) | (simp; omega))))) hg1 (by first | omega | (simp; done) | (simp; omega)) (fun k hk => by cases hk; omega)); have hB1 := Below.grown (Below.refl (w.heap.size + 1 + 1) _) hg1 (by first | omega | (simp; done) | (simp; omega)) (fun k hk => by cases hk; omega); have q0 := fun i => (hB1.cell (p := ⟨w.heap.size, i, none⟩) (by first | omega | (simp; done) | (simp; omega))).trans ((al3_0 rfl).2.1 i); have q1 := fun i => (hB1.cell (p := ⟨w.heap.size + 1, i, none⟩) (by first | omega | (simp; done) | (simp; omega))).trans ((al3_1 rfl).2.1 i); have qf := fun i => (hB1.frozen (p := ⟨w.heap.size + 1, i, none⟩) (by first | omega | (simp; done) | (simp; omega))).trans ((al3_1 rfl).2.2 i); clear hB1; have z1 := hg1.size; (simp at z1); clear hown1 hg1 hat1) | (refine wpList_append_T _ (d := (⟨0, 0⟩ : Sp)) rfl (.tmp 16) (.tmp 18) _ rfl (w.heap.size + 1 + 1) _ 2 16 spE encS_len encS_one v1 v1.ownBlock np pl rfl rfl ?_ _ 1 _ [(⟨0, 7992⟩ : Sp)] rfl ?_ ?_ ?_ ?_; (exact own_below HO1.out (by (repeat first | with_reducible assumption | with_reducible exact Below.refl _ _ | (with_reducible refine Below.alloc ?_ ?side _; case side => (first | omega | (with_reducible exact Below.size (by assumption)) | (simp; done) | (simp; omega))) | (with_reducible refine Below.setCell ?_ ?side _; case side => (first | omega | (with_reducible exact Below.size (by assumption)) | (simp; done) | (simp; omega))) | with_reducible refine Below.drew ?_ | with_reducible refine below_drewN ?_ _ | (with_reducible refine below_step (by assumption) ?side ?_; case side => (first | omega | (with_reducible exact Below.size (by assumption)) | (simp; done) | (simp; omega)))))); (exact sl_new encS_len rfl rfl rfl); omega; (first | omega | (simp; done) | (simp; omega)); (intro v2 w2 hown2 hg2 hat2; have HO2 := Lib.hid hown2; have hb2 : Below w.heap.size w w2 := (Below.grown (by (repeat first | with_reducible assumption | with_reducible exact Below.refl _ _ | (with_reducible refine Below.alloc ?_ ?side _; case side => (first | omega | (with_reducible exact Below.size (by assumption)) | (simp; done) | (simp; omega))) | (with_reducible refine Below.setCell ?_ ?side _; case side => (first | omega | (with_reducible exact Below.size (by assumption)) | (simp; done) | (simp; omega))) | with_reducible refine Below.drew ?_ | with_reducible refine below_drewN ?_ _ | (with_reducible refine below_step (by assumption) ?side ?_; case side => (first | omega | (with_reducible exact Below.size (by assumption)) | (simp; done) | (simp; omega))))) hg2 (by first | omega | (simp; done) | (simp; omega)) (fun k hk => by have := own_ge HO1.out k hk; omega)); obtain ⟨A2, c2, rfl, -, -⟩ := SlAt.of_own (d := (⟨0, 0⟩ : Sp)) encS_len HO2.out (by simp [hpl]); have hB2 : Below (w.heap.size + 1 + 1) w1 w2 := Below.grown (by (repeat first | with_reducible assumption | with_reducible exact Below.refl _ _ | (with_reducible refine Below.alloc ?_ ?side _; case side => (first | omega | (with_reducible exact Below.size (by assumption)) | (simp; done) | (simp; omega))) | (with_reducible refine Below.setCell ?_ ?side _; case side => (first | omega | (with_reducible exact Below.size (by assumption)) | (simp; done) | (simp; omega))) | with_reducible refine Below.drew ?_ | with_reducible refine below_drewN ?_ _ | (with_reducible refine below_step (by assumption) ?side ?_; case side => (first | omega | (with_reducible exact Below.size (by assumption)) | (simp; done) | (simp; omega))))) hg2 (by first | omega | (simp; done) | (simp; omega)) (own_ge HO1.out); have y0 := fun i => (hB2.cell (p := ⟨w.heap.size, i, none⟩) (by first | omega | (simp; done) | (simp; omega))).trans (q0 i); have y1 := fun i => (hB2.cell (p := ⟨w.heap.size + 1, i, none⟩) (by first | omega | (simp; done) | (simp; omega))).trans (q1 i); have yf := fun i => (hB2.frozen (p := ⟨w.heap.size + 1, i, none⟩) (by first | omega | (simp; done) | (simp; omega))).trans (qf i); clear hB2; have z2 := hg2.size; (simp at z2); clear hown2 hg2 hat2))))
  go_name_world W hW
  have u0 : ∀ j, W.cell? ⟨w2.heap.size, j, none⟩ = #[Value.slice none 0 0, .slice A2 (np + 1) c2][j]? := fun j => by rw [← hW]; exact World.cell?_alloc_new _ _ _ j
  have uf : ∀ j, W.frozen? ⟨w2.heap.size, j, none⟩ = false := fun j => by rw [← hW]; exact (Blk.new _ _ _).frozen j
  have hbW2 : Below w2.heap.size w2 W := by rw [← hW]; (repeat first | with_reducible assumption | with_reducible exact Below.refl _ _ | (with_reducible refine Below.alloc ?_ ?side _; case side => (first | omega | (with_reducible exact Below.size (by assumption)) | (simp; done) | (simp; omega))) | (with_reducible refine Below.setCell ?_ ?side _; case side => (first | omega | (with_reducible exact Below.size (by assumption)) | (simp; done) | (simp; omega))) | with_reducible refine Below.drew ?_ | with_reducible refine below_drewN ?_ _ | (with_reducible refine below_step (by assumption) ?side ?_; case side => (first | omega | (with_reducible exact Below.size (by assumption)) | (simp; done) | (simp; omega))))
  have zW : W.heap.size = w2.heap.size + 1 := by rw [← hW]; simp
  have v0 := fun i => (hbW2.cell (p := ⟨w.heap.size, i, none⟩) (by simp; omega)).trans (y0 i)
  have r1 := fun i => (hbW2.cell (p := ⟨w.heap.size + 1, i, none⟩) (by simp; omega)).trans (y1 i)
  have rf := fun i => (hbW2.frozen (p := ⟨w.heap.size + 1, i, none⟩) (by simp; omega)).trans (yf i)
  have hbW : Below w.heap.size w W := by (repeat first | with_reducible assumption | with_reducible exact Below.refl _ _ | (with_reducible refine Below.alloc ?_ ?side _; case side => (first | omega | (with_reducible exact Below.size (by assumption)) | (simp; done) | (simp; omega))) | (with_reducible refine Below.setCell ?_ ?side _; case side => (first | omega | (with_reducible exact Below.size (by assumption)) | (simp; done) | (simp; omega))) | with_reducible refine Below.drew ?_ | with_reducible refine below_drewN ?_ _ | (with_reducible refine below_step (by assumption) ?side ?_; case side => (first | omega | (with_reducible exact Below.size (by assumption)) | (simp; done) | (simp; omega))))
  clear hW y0 y1 yf q0 q1 qf HO1 hb1
  have W_ := Lib.hid (World.ownsRow_nil W W.heap.size 110 4)
  go_loopw [7] (fun i (wr : World) => ∃ (k : Nat) (v : Value), k ≤ nl ∧ i = .int .i64 k ∧ wr.cell? ⟨w2.heap.size, 0, none⟩ = some v ∧ wr.cell? ⟨w2.heap.size, 1, none⟩ = some (.slice A2 (np + 1) c2) ∧ wr.frozen? ⟨w2.heap.size, 0, none⟩ = false ∧ Hid (wr.ownsRow W.heap.size 110 4 v (2 * k) ((opTo np ls s k).flatMap encP)) ∧ Below w2.heap.size W wr) (fun i _ => nl - (intOf i).toNat)
  case atStart => exact ⟨0, _, by omega, rfl, u0 0, u0 1, uf 0, W_, Below.refl _ _⟩
  case round =>
    obtain ⟨k, v, hk, rfl, x0, x1, xf, HO, hb⟩ := hrel
    obtain ⟨hc, hf⟩ := bcell hb
    have zb := hb.size
    have m0 : w.heap.size < wr.heap.size := by omega
    have hbw : Below w.heap.size w wr := by (repeat first | with_reducible assumption | with_reducible exact Below.refl _ _ | (with_reducible refine Below.alloc ?_ ?side _; case side => (first | omega | (with_reducible exact Below.size (by assumption)) | (simp; done) | (simp; omega))) | (with_reducible refine Below.setCell ?_ ?side _; case side => (first | omega | (with_reducible exact Below.size (by assumption)) | (simp; done) | (simp; omega))) | with_reducible refine Below.drew ?_ | with_reducible refine below_drewN ?_ _ | (with_reducible refine below_step (by assumption) ?side ?_; case side => (first | omega | (with_reducible exact Below.size (by assumption)) | (simp; done) | (simp; omega))))
    have m1 : w.heap.size < w2.heap.size := by omega
    have m2 : w2.heap.size < wr.heap.size := by omega
    have qw := fun i => (hc w.heap.size i m1).trans (v0 i)
    have rw1 := fun i => (hc (w.heap.size + 1) i (by omega)).trans (r1 i)
    have rwf := fun i => (hf (w.heap.size + 1) i (by omega)).trans (rf i)
    clear v0 hc r1 rf hf
    obtain ⟨A1, c1, rfl, -, hsl⟩ := SlAt.of_own (d := (⟨0, 0, 0, 0⟩ : Pp)) encP_len HO.out (opTo_len _ _ _ _)
    have HSL := Lib.hid (pps_iff.2 hsl)
    clear hsl
    by_cases hlt : k < nl
    · have hB := bit_test s k
      obtain ⟨bl, ol, rfl, hbl, x2, x3, x4, x5, x6, x7⟩ := (HLI.out.later hbw).get hlt
      cases e1 : s.testBit k
      all_goals
        rw [e1] at hB
        go_wp2_with (at_builtin; go_must (refine wpList_append_T _ (d := (⟨0, 0, 0, 0⟩ : Pp)) rfl (.tmp 46) (.tmp 66) _ rfl W.heap.size _ 4 32 prE encP_len encP_one _ (Value.slice A1 (2 * k) c1).ownBlock (2 * k) (opTo np ls s k) rfl rfl ?_ _ 2 _ (opLn np s k (lnAt ls k)) rfl ?_ ?_ ?_ ?_; (exact own_below HO.out (by (repeat first | with_reducible assumption | with_reducible exact Below.refl _ _ | (with_reducible refine Below.alloc ?_ ?side _; case side => (first | omega | (with_reducible exact Below.size (by assumption)) | (simp; done) | (simp; omega))) | (with_reducible refine Below.setCell ?_ ?side _; case side => (first | omega | (with_reducible exact Below.size (by assumption)) | (simp; done) | (simp; omega))) | with_reducible refine Below.drew ?_ | with_reducible refine below_drewN ?_ _ | (with_reducible refine below_step (by assumption) ?side ?_; case side => (first | omega | (with_reducible exact Below.size (by assumption)) | (simp; done) | (simp; omega)))))); (exact sl_new encP_len (by simp) rfl (by simp [opLn, rwB, encP, e1])); omega; (first | omega | (simp; done) | (simp; omega)); (intro v3 w3 hown3 hg3 hat3; rw [← opTo_succ] at hown3; have hb3 : Below W.heap.size wr w3 := (Below.grown (by (repeat first | with_reducible assumption | with_reducible exact Below.refl _ _ | (with_reducible refine Below.alloc ?_ ?side _; case side => (first | omega | (with_reducible exact Below.size (by assumption)) | (simp; done) | (simp; omega))) | (with_reducible refine Below.setCell ?_ ?side _; case side => (first | omega | (with_reducible exact Below.size (by assumption)) | (simp; done) | (simp; omega))) | with_reducible refine Below.drew ?_ | with_reducible refine below_drewN ?_ _ | (with_reducible refine below_step (by assumption) ?side ?_; case side => (first | omega | (with_reducible exact Below.size (by assumption)) | (simp; done) | (simp; omega))))) hg3 (by first | omega | (simp; done) | (simp; omega)) (own_ge HO.out)); obtain ⟨A3, c3, rfl, -, -⟩ := SlAt.of_own (d := (⟨0, 0, 0, 0⟩ : Pp)) encP_len hown3 (by rw [opTo_len]; omega); have HO3 := Lib.hid hown3; have y0 := (hb3.cell (p := ⟨w2.heap.size, 0, none⟩) (by simp; omega)).trans x0; have y1 := (hb3.cell (p := ⟨w2.heap.size, 1, none⟩) (by simp; omega)).trans x1; have yf := (hb3.frozen (p := ⟨w2.heap.size, 0, none⟩) (by simp; omega)).trans xf; have z3 := hb3.size; clear hown3 hg3 hat3)))
        have e2 : 2 * k + 2 = 2 * (k + 1) := by omega
        refine ⟨⟨k + 1, _, by omega, by simp, World.cell?_setCell_same _ _ _ y0, (World.cell?_setCell_other _ _ _ _ (by simp)).trans y1, by rw [World.frozen?_setCell]; exact yf, ?_, ?_⟩, by simp [intOf]; omega⟩
        · rw [← e2]; exact own_set HO3.out (fun q hq => by have := own_ge HO3.out q hq; simp; omega)
        · (repeat first | with_reducible assumption | with_reducible exact Below.refl _ _ | (with_reducible refine Below.alloc ?_ ?side _; case side => (first | omega | (with_reducible exact Below.size (by assumption)) | (simp; done) | (simp; omega))) | (with_reducible refine Below.setCell ?_ ?side _; case side => (first | omega | (with_reducible exact Below.size (by assumption)) | (simp; done) | (simp; omega))) | with_reducible refine Below.drew ?_ | with_reducible refine below_drewN ?_ _ | (with_reducible refine below_step (by assumption) ?side ?_; case side => (first | omega | (with_reducible exact Below.size (by assumption)) | (simp; done) | (simp; omega))))
    · obtain rfl : nl = k := by omega
      have hb2w : Below w2.heap.size w2 wr := hbW2.trans hb
      have HR := Lib.hid (own_below HO2.out hb2w)
      have n1 : w.heap.size + 1 < wr.heap.size := by omega
      go_wp2
      generalize hW9 : (wr.setCell ⟨w.heap.size + 1, 0, none⟩ (.slice A1 (2 * nl) c1)).setCell ⟨w.heap.size + 1, 1, none⟩ (.slice A2 (np + 1) c2) = W9
      have T : ∀ j, W9.cell? ⟨w.heap.size + 1, j, none⟩ = #[Value.slice A1 (2 * nl) c1, .slice A2 (np + 1) c2][j]? := fun j => by rw [← hW9]; exact two_set rw1 j
      have hb9 : Below w.heap.size w W9 := by rw [← hW9]; (repeat first | with_reducible assumption | with_reducible exact Below.refl _ _ | (with_reducible refine Below.alloc ?_ ?side _; case side => (first | omega | (with_reducible exact Below.size (by assumption)) | (simp; done) | (simp; omega))) | (with_reducible refine Below.setCell ?_ ?side _; case side => (first | omega | (with_reducible exact Below.size (by assumption)) | (simp; done) | (simp; omega))) | with_reducible refine Below.drew ?_ | with_reducible refine below_drewN ?_ _ | (with_reducible refine below_step (by assumption) ?side ?_; case side => (first | omega | (with_reducible exact Below.size (by assumption)) | (simp; done) | (simp; omega))))
      have E1 : PpsAt W9 A1 (2 * nl) (opTo np ls s nl) := by
        rw [← hW9]
        exact pps_iff.2 (sl_of_own encP_len (own_set (own_set HO.out (fun k hk => by have := own_ge HO.out k hk; simp; omega)) (fun k hk => by have := own_ge HO.out k hk; simp; omega)) (opTo_len _ _ _ _))
      have E2 : SpsAt W9 A2 (np + 1) (opSt pl) := by
        rw [← hW9]
        exact sps_iff.2 (sl_of_own encS_len (own_set (own_set HR.out (fun k hk => by have := own_ge HR.out k hk; simp; omega)) (fun k hk => by have := own_ge HR.out k hk; simp; omega)) (by simp [opSt, hpl]))
      clear hW9
      exact bodyPost_ret (v := .agg #[.slice A1 (2 * nl) c1, .slice A2 (np + 1) c2]) (by simp [results, Try.results76, go_sem, T]) rfl ⟨A1, c1, A2, c2, rfl, E1, E2, hb9⟩

end Go.Proofs.Ytoehifincdflhaa
