/- looses of the specification (layer 11): the sets of lines that can be wrong. -/
import Derived.Test.YtoehifincdflhaaBd11
import Derived.Test.YtoehifincdflhaaRs11
import Derived.Test.YtoehifincdflhaaFw11
import Derived.Test.YtoehifincdflhaaEb11
namespace Go.Proofs.Ytoehifincdflhaa
open Go.RowKit
open Go.Sort (grow)
set_option linter.unusedVariables false

/-- the net of a set of lines, as the specification asks it -/
def rBnd (np nl : Nat) (pl : List Sp) (ls : List Ln) (free place : Int) (s : Nat) : Sp := bndS (2 * nl) (np + 1) (opTo np ls s nl) (opSt pl) free place
def rCan (np nl : Nat) (pl : List Sp) (ls : List Ln) (s : Nat) : Bool := bndB (2 * nl) (np + 1) (opTo np ls s nl) (opSt pl) (-1) (-1)
def loB (np nl : Nat) (pl : List Sp) (ls : List Ln) (most : Int) (s : Nat) : Bool := decide ((cnt 8 s : Int) ≤ most) && rCan np nl pl ls s
def loK (np nl : Nat) (pl : List Sp) (ls : List Ln) (most : Int) (k : Nat) : List Nat := (List.range k).filter (loB np nl pl ls most)
def loL (np nl : Nat) (pl : List Sp) (ls : List Ln) (most : Int) : List Nat := loK np nl pl ls most (2 ^ nl)
section
variable {np nl : Nat} {pl : List Sp} {ls : List Ln}
theorem loK_succ {most : Int} {k : Nat} (h : loB np nl pl ls most k = true) : loK np nl pl ls most (k + 1) = loK np nl pl ls most k ++ [k] := by simp [loK, List.range_succ, List.filter_append, h]
theorem loK_no {most : Int} {k : Nat} (h : loB np nl pl ls most k = false) : loK np nl pl ls most (k + 1) = loK np nl pl ls most k := by simp [loK, List.range_succ, List.filter_append, h]
theorem loK_len {most : Int} (k : Nat) : (loK np nl pl ls most k).length ≤ k := by
  have := List.length_filter_le (loB np nl pl ls most) (List.range k)
  simpa [loK] using this
theorem getD_all {α : Type} {l : List α} {d : α} {P : α → Prop} (h0 : P d) (h : ∀ p ∈ l, P p) (k : Nat) : P (l.getD k d) := by
  rw [List.getD_eq_getElem?_getD]
  cases hx : l[k]? with
  | none => exact h0
  | some p => exact h p (List.mem_of_getElem? hx)
theorem opLn_bd (h : OkBk np nl pl ls) (s i : Nat) : ∀ p ∈ opLn np s i (lnAt ls i), -10000 ≤ p.lo ∧ p.lo ≤ 10000 ∧ -10000 ≤ p.hi ∧ p.hi ≤ 10000 ∧ p.fr < 64 ∧ p.to < 64 := by
  intro p hp
  have := h.ln i
  have := h.hp
  simp only [opLn, List.mem_cons, List.not_mem_nil, or_false] at hp
  rcases hp with rfl | rfl
  · unfold rwB
    cases s.testBit i <;> simp <;> omega
  · simp; omega
theorem bndOk_of (h : OkBk np nl pl ls) (s : Nat) {free place : Int} (hf : free = -1 ∨ ∃ f : Nat, free = f ∧ f < 2 * nl) (hp : place = -1 ∨ ∃ f : Nat, place = f ∧ f < np + 1) : BndOk (2 * nl) (np + 1) (opTo np ls s nl) (opSt pl) free place := by
  have h1 := h.hl
  have h2 := h.hp
  refine ⟨by omega, by omega, fun k => ?_, fun k => ?_, hf, hp⟩
  · refine getD_all (P := fun p : Pp => -10000 ≤ p.lo ∧ p.lo ≤ 10000 ∧ -10000 ≤ p.hi ∧ p.hi ≤ 10000 ∧ p.fr < 64 ∧ p.to < 64) (by simp) (fun p hm => ?_) k
    simp only [opTo, List.mem_flatMap] at hm
    obtain ⟨i, -, hi⟩ := hm
    exact opLn_bd h s i p hi
  · refine getD_all (P := fun p : Sp => -10000 ≤ p.lo ∧ p.lo ≤ 10000 ∧ -10000 ≤ p.hi ∧ p.hi ≤ 10000) (by simp) (fun p hm => ?_) k
    rw [opSt, List.mem_append] at hm
    rcases hm with hm | hm
    · obtain ⟨j, hj, he⟩ := List.getElem_of_mem hm
      have h3 := h.sp j
      have h4 : spAt pl j = p := by unfold spAt; rw [List.getD_eq_getElem?_getD, List.getElem?_eq_getElem hj, he]; rfl
      rw [h4] at h3
      omega
    · simp at hm
      subst hm
      simp
end
set_option maxRecDepth 100000 in
set_option maxHeartbeats 3200000 in
theorem looses_c (Ap Al : Option Addr) (np cp nl cl : Nat) (wrg most : Int) (pl : List Sp) (ls : List Ln) (w : World) (hok : OkBk np nl pl ls) (HP : SpsAt w Ap np pl) (HL : LnsAt w Al nl ls) :
    Calls Try.prog 67 #[.agg #[.slice Ap np cp, .slice Al nl cl, .int .i64 wrg], .int .i64 most] w
      fun e w' => ∃ A c, e = .returned (.slice A (loL np nl pl ls most).length c) ∧ IntsAt w' A (loL np nl pl ls most).length ((loL np nl pl ls most).map fun k : Nat => (k : Int)) ∧ Below w.heap.size w w' := by
  have HPI := Lib.hid HP
  have HLI := Lib.hid HL
  have HK := Lib.hid hok
  have hp5 := hok.hp
  have hl8 := hok.hl
  obtain ⟨M, hM2⟩ : ∃ M, 2 ^ nl = M := ⟨_, rfl⟩
  have hMle : M ≤ 256 := by
    have : 2 ^ nl ≤ 2 ^ 8 := Nat.pow_le_pow_right (by omega) hl8
    omega
  have hsh : IntKind.i64.wrap ((2 : Int) ^ nl) = (M : Int) := by
    have e : (2 : Int) ^ nl = (M : Int) := by rw [← hM2]; simp
    rw [e, IntWalk.i64_in _ (by omega)]
  have HLL := Lib.hid (show loL np nl pl ls most = loK np nl pl ls most M by rw [← hM2]; rfl)
  clear HP HL hok hM2
  go_enter Try.func67, Try.ntmps67
  go_wp2_with fail
  go_name_world W hW
  obtain ⟨hB, hz⟩ := al1 hW
  obtain ⟨l_0, q_0, f_0⟩ := al1_0 hW
  have HZ := Lib.hid hz
  have zs := hB.size
  clear hW hz
  have W_ := Lib.hid (World.ownsRow_nil W W.heap.size 3 1)
  go_loopw [5, 6] (fun v i (wr : World) => ∃ k : Nat, k ≤ M ∧ i = .int .i64 k ∧ Hid (wr.ownsRow W.heap.size 3 1 v (loK np nl pl ls most k).length (((loK np nl pl ls most k).map fun j : Nat => (j : Int)).flatMap encI)) ∧ Below W.heap.size W wr) (fun _ i _ => M - (intOf i).toNat)
  case atStart => exact ⟨0, by omega, rfl, W_, Below.refl _ _⟩
  case round =>
    obtain ⟨k, hk, rfl, HO, hb⟩ := hrel
    obtain ⟨hc, hf⟩ := bcell hb
    have zb := hb.size
    have m0 := Nat.lt_of_lt_of_le l_0 zb
    have hbw : Below w.heap.size w wr := by (repeat first | with_reducible assumption | with_reducible exact Below.refl _ _ | (with_reducible refine Below.alloc ?_ ?side _; case side => (first | omega | (with_reducible exact Below.size (by assumption)) | (simp; done) | (simp; omega))) | (with_reducible refine Below.setCell ?_ ?side _; case side => (first | omega | (with_reducible exact Below.size (by assumption)) | (simp; done) | (simp; omega))) | with_reducible refine Below.drew ?_ | with_reducible refine below_drewN ?_ _ | (with_reducible refine below_step (by assumption) ?side ?_; case side => (first | omega | (with_reducible exact Below.size (by assumption)) | (simp; done) | (simp; omega))))
    have hle := loK_len (np := np) (nl := nl) (pl := pl) (ls := ls) (most := most) k
    by_cases hlt : k < M
    · have hltB : decide ((k : Int) < M) = true := by simp; omega
      have hc8 : cnt 8 k ≤ 8 := by
        have := List.length_filter_le k.testBit (List.range 8)
        simpa [cnt] using this
      by_cases hcm : most < (cnt 8 k : Int)
      · have hcB : decide (most < (cnt 8 k : Int)) = true := by simp; omega
        have HNo := Lib.hid (loK_no (np := np) (nl := nl) (pl := pl) (ls := ls) (most := most) (k := k) (by rw [loB, decide_eq_false (by omega)]; rfl))
        go_wp2_with (go_at_call 68; refine (many_c k _ (by omega)).mono ?_; rintro e w' ⟨rfl, rfl⟩)
        refine ⟨⟨k + 1, by omega, by simp, ?_, hb⟩, by simp [intOf]; omega⟩
        rw [HNo.out]; exact HO
      · have hcB : decide (most < (cnt 8 k : Int)) = false := by simp; omega
        have hcm' := Lib.hid (show (cnt 8 k : Int) ≤ most by omega)
        go_wp2_with (first | (go_at_call 68; refine (many_c k _ (by omega)).mono ?_; rintro e w' ⟨rfl, rfl⟩) | (go_at_call 76; refine (open_c Ap Al np cp nl cl k wrg pl ls _ (by omega) (by omega) (by omega) (HPI.out.later hbw) (HLI.out.later hbw)).mono ?_; rintro e w2 ⟨A1, c1, A2, c2, rfl, o1, o2, hb2⟩))
        have O1 := Lib.hid o1
        have O2 := Lib.hid o2
        have z2 := hb2.size
        have x2 := fun i => (hb2.cell (p := ⟨w.heap.size, i, none⟩) m0).trans ((hc _ i l_0).trans (q_0 i))
        have hbw2 : Below w.heap.size w w2 := hbw.trans (hb2.mono hbw.size)
        have bW2 : Below W.heap.size W w2 := hb.trans (hb2.mono zb)
        have HO2 := Lib.hid (own_below HO.out hb2)
        have n2 : w.heap.size < w2.heap.size := by omega
        have zW2 := bW2.size
        clear hc hf hb hbw hb2 o1 o2 HO
        cases e1 : rCan np nl pl ls k
        · have HNo := Lib.hid (loK_no (np := np) (nl := nl) (pl := pl) (ls := ls) (most := most) (k := k) (by rw [loB, e1, Bool.and_false]))
          have HB : ∀ W', Below w2.heap.size w2 W' → Calls Try.prog 77 #[.agg #[.slice A1 (2 * nl) c1, .slice A2 (np + 1) c2], .int .i64 (-1), .int .i64 (-1)] W' fun e w' => e = .returned (.tuple #[.agg #[.int .i64 (rBnd np nl pl ls (-1) (-1) k).lo, .int .i64 (rBnd np nl pl ls (-1) (-1) k).hi], .bool false]) ∧ Below W'.heap.size W' w' := fun W' h => by
            rw [← e1]
            exact bounds_c A1 A2 (2 * nl) (np + 1) c1 c2 (-1) (-1) (opTo np ls k nl) (opSt pl) W' (bndOk_of HK.out k (.inl rfl) (.inl rfl)) (O1.out.later h) (O2.out.later h)
          replace HB := Lib.hid HB
          go_wp2_with (go_at_call 77; refine (HB.out _ (by (repeat first | with_reducible assumption | with_reducible exact Below.refl _ _ | (with_reducible refine Below.alloc ?_ ?side _; case side => (first | omega | (with_reducible exact Below.size (by assumption)) | (simp; done) | (simp; omega))) | (with_reducible refine Below.setCell ?_ ?side _; case side => (first | omega | (with_reducible exact Below.size (by assumption)) | (simp; done) | (simp; omega))) | with_reducible refine Below.drew ?_ | with_reducible refine below_drewN ?_ _ | (with_reducible refine below_step (by assumption) ?side ?_; case side => (first | omega | (with_reducible exact Below.size (by assumption)) | (simp; done) | (simp; omega)))))).mono ?_; rintro e w3 ⟨rfl, hb3⟩; have z3 := hb3.size)
          refine ⟨⟨k + 1, by omega, by simp, ?_, by (repeat first | with_reducible assumption | with_reducible exact Below.refl _ _ | (with_reducible refine Below.alloc ?_ ?side _; case side => (first | omega | (with_reducible exact Below.size (by assumption)) | (simp; done) | (simp; omega))) | (with_reducible refine Below.setCell ?_ ?side _; case side => (first | omega | (with_reducible exact Below.size (by assumption)) | (simp; done) | (simp; omega))) | with_reducible refine Below.drew ?_ | with_reducible refine below_drewN ?_ _ | (with_reducible refine below_step (by assumption) ?side ?_; case side => (first | omega | (with_reducible exact Below.size (by assumption)) | (simp; done) | (simp; omega))))⟩, by simp [intOf]; omega⟩
          rw [HNo.out]
          exact own_below HO2.out (by (repeat first | with_reducible assumption | with_reducible exact Below.refl _ _ | (with_reducible refine Below.alloc ?_ ?side _; case side => (first | omega | (with_reducible exact Below.size (by assumption)) | (simp; done) | (simp; omega))) | (with_reducible refine Below.setCell ?_ ?side _; case side => (first | omega | (with_reducible exact Below.size (by assumption)) | (simp; done) | (simp; omega))) | with_reducible refine Below.drew ?_ | with_reducible refine below_drewN ?_ _ | (with_reducible refine below_step (by assumption) ?side ?_; case side => (first | omega | (with_reducible exact Below.size (by assumption)) | (simp; done) | (simp; omega)))))
        · have HYe := Lib.hid (loK_succ (np := np) (nl := nl) (pl := pl) (ls := ls) (most := most) (k := k) (by rw [loB, e1, decide_eq_true hcm'.out]; rfl))
          have HB : ∀ W', Below w2.heap.size w2 W' → Calls Try.prog 77 #[.agg #[.slice A1 (2 * nl) c1, .slice A2 (np + 1) c2], .int .i64 (-1), .int .i64 (-1)] W' fun e w' => e = .returned (.tuple #[.agg #[.int .i64 (rBnd np nl pl ls (-1) (-1) k).lo, .int .i64 (rBnd np nl pl ls (-1) (-1) k).hi], .bool true]) ∧ Below W'.heap.size W' w' := fun W' h => by
            rw [← e1]
            exact bounds_c A1 A2 (2 * nl) (np + 1) c1 c2 (-1) (-1) (opTo np ls k nl) (opSt pl) W' (bndOk_of HK.out k (.inl rfl) (.inl rfl)) (O1.out.later h) (O2.out.later h)
          replace HB := Lib.hid HB
          go_wp2_with (first | (go_at_call 77; refine (HB.out _ (by (repeat first | with_reducible assumption | with_reducible exact Below.refl _ _ | (with_reducible refine Below.alloc ?_ ?side _; case side => (first | omega | (with_reducible exact Below.size (by assumption)) | (simp; done) | (simp; omega))) | (with_reducible refine Below.setCell ?_ ?side _; case side => (first | omega | (with_reducible exact Below.size (by assumption)) | (simp; done) | (simp; omega))) | with_reducible refine Below.drew ?_ | with_reducible refine below_drewN ?_ _ | (with_reducible refine below_step (by assumption) ?side ?_; case side => (first | omega | (with_reducible exact Below.size (by assumption)) | (simp; done) | (simp; omega)))))).mono ?_; rintro e w3 ⟨rfl, hb3⟩; have z3 := hb3.size; have HO3 := Lib.hid (own_below HO2.out hb3)) | (at_builtin; go_must (refine wpList_append_T _ (d := (0 : Int)) rfl (.tmp 30) (.tmp 32) _ rfl W.heap.size _ 1 8 intE encI_len encI_one u5 u5.ownBlock (loK np nl pl ls most k).length ((loK np nl pl ls most k).map fun j : Nat => (j : Int)) rfl rfl ?_ _ 1 _ [(k : Int)] rfl ?_ ?_ ?_ ?_; (exact own_below HO3.out (by (repeat first | with_reducible assumption | with_reducible exact Below.refl _ _ | (with_reducible refine Below.alloc ?_ ?side _; case side => (first | omega | (with_reducible exact Below.size (by assumption)) | (simp; done) | (simp; omega))) | (with_reducible refine Below.setCell ?_ ?side _; case side => (first | omega | (with_reducible exact Below.size (by assumption)) | (simp; done) | (simp; omega))) | with_reducible refine Below.drew ?_ | with_reducible refine below_drewN ?_ _ | (with_reducible refine below_step (by assumption) ?side ?_; case side => (first | omega | (with_reducible exact Below.size (by assumption)) | (simp; done) | (simp; omega)))))); (exact sl_new encI_len (by simp) rfl rfl); omega; (simp; omega); (intro v' w5 hown5 hg5 hat5; have hb5 : Below W.heap.size W w5 := (Below.grown (by (repeat first | with_reducible assumption | with_reducible exact Below.refl _ _ | (with_reducible refine Below.alloc ?_ ?side _; case side => (first | omega | (with_reducible exact Below.size (by assumption)) | (simp; done) | (simp; omega))) | (with_reducible refine Below.setCell ?_ ?side _; case side => (first | omega | (with_reducible exact Below.size (by assumption)) | (simp; done) | (simp; omega))) | with_reducible refine Below.drew ?_ | with_reducible refine below_drewN ?_ _ | (with_reducible refine below_step (by assumption) ?side ?_; case side => (first | omega | (with_reducible exact Below.size (by assumption)) | (simp; done) | (simp; omega))))) hg5 (by simp; omega) (own_ge HO3.out)); have hown6 : Hid (w5.ownsRow W.heap.size 3 1 v' (loK np nl pl ls most (k + 1)).length (((loK np nl pl ls most (k + 1)).map fun j : Nat => (j : Int)).flatMap encI)) := (by rw [HYe.out, List.length_append, List.map_append]; exact hown5); clear hown5 hg5 hat5))))
          refine ⟨⟨k + 1, by omega, by simp, hown6, hb5⟩, by simp [intOf]; omega⟩
    · obtain rfl : M = k := by omega
      have hltB : decide (((M : Nat) : Int) < M) = false := by simp
      obtain ⟨A, c, rfl, -, hsl⟩ := SlAt.of_own (d := (0 : Int)) encI_len HO.out (by simp)
      have hsI := Lib.hid (ints_iff.2 hsl)
      clear hsl
      go_wp2_with fail
      rw [HLL.out]
      go_ret
      exact ⟨A, c, rfl, hsI.out, hbw⟩

def minC (n : Nat) (l : List Nat) : Nat := l.foldl (fun a s => min a (cnt 8 s)) n
def fewF (np nl : Nat) (pl : List Sp) (ls : List Ln) (wrg : Int) : Int × Int :=
  bif ckBk np nl pl ls wrg then (bif (loL np nl pl ls nl).isEmpty then (0, 3) else ((minC nl (loL np nl pl ls nl) : Int), 0)) else (0, 110)
def askF (np nl : Nat) (pl : List Sp) (ls : List Ln) (wrg : Int) (is : Bool) : Int :=
  bif ckBk np nl pl ls wrg then (bif is then (bif (loL np nl pl ls wrg).isEmpty then 3 else 0) else 1) else 110
section
variable {np nl : Nat} {pl : List Sp} {ls : List Ln}
theorem loL_lt {most : Int} {s : Nat} (h : s ∈ loL np nl pl ls most) : s < 2 ^ nl := by
  simp only [loL, loK, List.mem_filter, List.mem_range] at h
  exact h.1
theorem minC_le (n : Nat) (l : List Nat) : minC n l ≤ n := by
  induction l generalizing n with
  | nil => exact Nat.le_refl _
  | cons x l ih => exact Nat.le_trans (ih _) (Nat.min_le_left _ _)
theorem minC_snoc (n : Nat) (l : List Nat) (x : Nat) : minC n (l ++ [x]) = min (minC n l) (cnt 8 x) := by simp [minC]
end
set_option maxRecDepth 100000 in
set_option maxHeartbeats 1600000 in
theorem refFewest_c (Ap Al : Option Addr) (np cp nl cl : Nat) (wrg : Int) (pl : List Sp) (ls : List Ln) (w : World) (hp : np ≤ 40) (hl : nl ≤ 40) (HP : SpsAt w Ap np pl) (HL : LnsAt w Al nl ls) :
    Calls Try.prog 41 #[.agg #[.slice Ap np cp, .slice Al nl cl, .int .i64 wrg]] w
      fun e w' => e = .returned (.tuple #[.int .i64 (fewF np nl pl ls wrg).1, .int .i64 (fewF np nl pl ls wrg).2]) ∧ Below w.heap.size w w' := by
  have HPI := Lib.hid HP
  have HLI := Lib.hid HL
  cases hck : ckBk np nl pl ls wrg
  · have e0 : erB (ckBk np nl pl ls wrg) = 110 := by rw [hck]; rfl
    have ef : fewF np nl pl ls wrg = (0, 110) := by rw [fewF, hck]; rfl
    rw [ef]
    clear HP HL hck
    go_enter Try.func41, Try.ntmps41
    go_wp2_with (go_at_call 38; refine (refCheck_c Ap Al np cp nl cl wrg pl ls _ hp hl (HPI.out.later (by (repeat first | with_reducible assumption | with_reducible exact Below.refl _ _ | refine below_drewN ?_ _ | refine Below.drew ?_ | refine Below.alloc ?_ (by first | omega | (with_reducible exact Below.size (by assumption)) | (simp; done) | (simp; omega)) _ | refine Below.setCell ?_ (by first | omega | (with_reducible exact Below.size (by assumption)) | (simp; done) | (simp; omega)) _ | refine below_step (by assumption) (by first | omega | (with_reducible exact Below.size (by assumption)) | (simp; done) | (simp; omega)) ?_))) (HLI.out.later (by (repeat first | with_reducible assumption | with_reducible exact Below.refl _ _ | refine below_drewN ?_ _ | refine Below.drew ?_ | refine Below.alloc ?_ (by first | omega | (with_reducible exact Below.size (by assumption)) | (simp; done) | (simp; omega)) _ | refine Below.setCell ?_ (by first | omega | (with_reducible exact Below.size (by assumption)) | (simp; done) | (simp; omega)) _ | refine below_step (by assumption) (by first | omega | (with_reducible exact Below.size (by assumption)) | (simp; done) | (simp; omega)) ?_)))).mono ?_; rw [e0]; (rintro e w1 ⟨rfl, hb1⟩; obtain ⟨hc1, hf1⟩ := bcell hb1; have zs1 := hb1.size; (try simp at zs1); have n1_0 : w.heap.size < w1.heap.size := (by omega)))
    exact bodyPost_ret (v := .tuple #[.int .i64 0, .int .i64 110]) (by simp [results, Try.results41, go_sem]) rfl ⟨rfl, by (repeat first | with_reducible assumption | with_reducible exact Below.refl _ _ | (with_reducible refine Below.alloc ?_ ?side _; case side => (first | omega | (with_reducible exact Below.size (by assumption)) | (simp; done) | (simp; omega))) | (with_reducible refine Below.setCell ?_ ?side _; case side => (first | omega | (with_reducible exact Below.size (by assumption)) | (simp; done) | (simp; omega))) | with_reducible refine Below.drew ?_ | with_reducible refine below_drewN ?_ _ | (with_reducible refine below_step (by assumption) ?side ?_; case side => (first | omega | (with_reducible exact Below.size (by assumption)) | (simp; done) | (simp; omega))))⟩
  have e0 : erB (ckBk np nl pl ls wrg) = 0 := by rw [hck]; rfl
  obtain ⟨hok, -, -⟩ := okBk_of HP.1 HL.1 hck
  have HK := Lib.hid hok
  have hl8 := hok.hl
  obtain ⟨l, hll⟩ : ∃ l, loL np nl pl ls (nl : Int) = l := ⟨_, rfl⟩
  have HLT := Lib.hid (fun s (h : s ∈ l) => loL_lt (hll ▸ h : s ∈ loL np nl pl ls (nl : Int)))
  have hn0 := Lib.hid (show fewF np nl pl ls wrg = bif l.isEmpty then (0, 3) else ((minC nl l : Int), 0) by rw [fewF, hck, hll]; rfl)
  have hle : l.length ≤ 256 := by
    rw [← hll]
    have h1 := loK_len (np := np) (nl := nl) (pl := pl) (ls := ls) (most := (nl : Int)) (2 ^ nl)
    have h2 : 2 ^ nl ≤ 2 ^ 8 := Nat.pow_le_pow_right (by omega) hl8
    simp only [loL]
    omega
  have h256 : 2 ^ nl ≤ 256 := by
    have h2 : 2 ^ nl ≤ 2 ^ 8 := Nat.pow_le_pow_right (by omega) hl8
    omega
  replace h256 := Lib.hid h256
  have HLL := Lib.hid hll
  clear HP HL hck hok hll
  rcases l with _ | ⟨x, l⟩
  · rw [hn0.out]
    show Calls _ _ _ _ fun e w' => e = .returned (.tuple #[.int .i64 0, .int .i64 3]) ∧ Below w.heap.size w w'
    go_enter Try.func41, Try.ntmps41
    go_wp2_with (go_at_call 38; refine (refCheck_c Ap Al np cp nl cl wrg pl ls _ hp hl (HPI.out.later (by (repeat first | with_reducible assumption | with_reducible exact Below.refl _ _ | refine below_drewN ?_ _ | refine Below.drew ?_ | refine Below.alloc ?_ (by first | omega | (with_reducible exact Below.size (by assumption)) | (simp; done) | (simp; omega)) _ | refine Below.setCell ?_ (by first | omega | (with_reducible exact Below.size (by assumption)) | (simp; done) | (simp; omega)) _ | refine below_step (by assumption) (by first | omega | (with_reducible exact Below.size (by assumption)) | (simp; done) | (simp; omega)) ?_))) (HLI.out.later (by (repeat first | with_reducible assumption | with_reducible exact Below.refl _ _ | refine below_drewN ?_ _ | refine Below.drew ?_ | refine Below.alloc ?_ (by first | omega | (with_reducible exact Below.size (by assumption)) | (simp; done) | (simp; omega)) _ | refine Below.setCell ?_ (by first | omega | (with_reducible exact Below.size (by assumption)) | (simp; done) | (simp; omega)) _ | refine below_step (by assumption) (by first | omega | (with_reducible exact Below.size (by assumption)) | (simp; done) | (simp; omega)) ?_)))).mono ?_; rw [e0]; (rintro e w1 ⟨rfl, hb1⟩; obtain ⟨hc1, hf1⟩ := bcell hb1; have zs1 := hb1.size; (try simp at zs1); have n1_0 : w.heap.size < w1.heap.size := (by omega)))
    have d0 := fun i => (hc1 w.heap.size i (by first | omega | (simp; done) | (simp; omega))).trans ((al1_0 rfl).2.1 i)
    have hbw1 : Below w.heap.size w w1 := by (repeat first | with_reducible assumption | with_reducible exact Below.refl _ _ | (with_reducible refine Below.alloc ?_ ?side _; case side => (first | omega | (with_reducible exact Below.size (by assumption)) | (simp; done) | (simp; omega))) | (with_reducible refine Below.setCell ?_ ?side _; case side => (first | omega | (with_reducible exact Below.size (by assumption)) | (simp; done) | (simp; omega))) | with_reducible refine Below.drew ?_ | with_reducible refine below_drewN ?_ _ | (with_reducible refine below_step (by assumption) ?side ?_; case side => (first | omega | (with_reducible exact Below.size (by assumption)) | (simp; done) | (simp; omega))))
    have z1 := hbw1.size
    clear hc1 hf1 hb1
    go_wp2_with (go_at_call 67; refine (looses_c Ap Al np cp nl cl wrg nl pl ls _ HK.out (HPI.out.later (by (repeat first | with_reducible assumption | with_reducible exact Below.refl _ _ | (with_reducible refine Below.alloc ?_ ?side _; case side => (first | omega | (with_reducible exact Below.size (by assumption)) | (simp; done) | (simp; omega))) | (with_reducible refine Below.setCell ?_ ?side _; case side => (first | omega | (with_reducible exact Below.size (by assumption)) | (simp; done) | (simp; omega))) | with_reducible refine Below.drew ?_ | with_reducible refine below_drewN ?_ _ | (with_reducible refine below_step (by assumption) ?side ?_; case side => (first | omega | (with_reducible exact Below.size (by assumption)) | (simp; done) | (simp; omega)))))) (HLI.out.later (by (repeat first | with_reducible assumption | with_reducible exact Below.refl _ _ | (with_reducible refine Below.alloc ?_ ?side _; case side => (first | omega | (with_reducible exact Below.size (by assumption)) | (simp; done) | (simp; omega))) | (with_reducible refine Below.setCell ?_ ?side _; case side => (first | omega | (with_reducible exact Below.size (by assumption)) | (simp; done) | (simp; omega))) | with_reducible refine Below.drew ?_ | with_reducible refine below_drewN ?_ _ | (with_reducible refine below_step (by assumption) ?side ?_; case side => (first | omega | (with_reducible exact Below.size (by assumption)) | (simp; done) | (simp; omega))))))).mono ?_; rw [HLL.out]; rintro e w2 ⟨A, c, rfl, hI, hb2⟩)
    exact bodyPost_ret (v := .tuple #[.int .i64 0, .int .i64 3]) (by simp [results, Try.results41, go_sem]) rfl ⟨rfl, by (repeat first | with_reducible assumption | with_reducible exact Below.refl _ _ | (with_reducible refine Below.alloc ?_ ?side _; case side => (first | omega | (with_reducible exact Below.size (by assumption)) | (simp; done) | (simp; omega))) | (with_reducible refine Below.setCell ?_ ?side _; case side => (first | omega | (with_reducible exact Below.size (by assumption)) | (simp; done) | (simp; omega))) | with_reducible refine Below.drew ?_ | with_reducible refine below_drewN ?_ _ | (with_reducible refine below_step (by assumption) ?side ?_; case side => (first | omega | (with_reducible exact Below.size (by assumption)) | (simp; done) | (simp; omega))))⟩
  · obtain ⟨m, hm⟩ : ∃ m, x :: l = m := ⟨_, rfl⟩
    have hm0 : 0 < m.length := by rw [← hm]; simp
    have hn1 := Lib.hid (show fewF np nl pl ls wrg = ((minC nl m : Int), 0) by rw [hn0.out, ← hm]; rfl)
    rw [hm] at HLL HLT hle
    clear hm hn0
    obtain ⟨M, hM⟩ : ∃ M, m.length = M := ⟨_, rfl⟩
    rw [hM] at hm0 hle
    have hmB : (((M : Nat) : Int) == 0) = false := by simp; omega
    have HM := Lib.hid hM
    clear hM
    rw [hn1.out]
    go_enter Try.func41, Try.ntmps41
    go_wp2_with (go_at_call 38; refine (refCheck_c Ap Al np cp nl cl wrg pl ls _ hp hl (HPI.out.later (by (repeat first | with_reducible assumption | with_reducible exact Below.refl _ _ | refine below_drewN ?_ _ | refine Below.drew ?_ | refine Below.alloc ?_ (by first | omega | (with_reducible exact Below.size (by assumption)) | (simp; done) | (simp; omega)) _ | refine Below.setCell ?_ (by first | omega | (with_reducible exact Below.size (by assumption)) | (simp; done) | (simp; omega)) _ | refine below_step (by assumption) (by first | omega | (with_reducible exact Below.size (by assumption)) | (simp; done) | (simp; omega)) ?_))) (HLI.out.later (by (repeat first | with_reducible assumption | with_reducible exact Below.refl _ _ | refine below_drewN ?_ _ | refine Below.drew ?_ | refine Below.alloc ?_ (by first | omega | (with_reducible exact Below.size (by assumption)) | (simp; done) | (simp; omega)) _ | refine Below.setCell ?_ (by first | omega | (with_reducible exact Below.size (by assumption)) | (simp; done) | (simp; omega)) _ | refine below_step (by assumption) (by first | omega | (with_reducible exact Below.size (by assumption)) | (simp; done) | (simp; omega)) ?_)))).mono ?_; rw [e0]; (rintro e w1 ⟨rfl, hb1⟩; obtain ⟨hc1, hf1⟩ := bcell hb1; have zs1 := hb1.size; (try simp at zs1); have n1_0 : w.heap.size < w1.heap.size := (by omega)))
    have d0 := fun i => (hc1 w.heap.size i (by first | omega | (simp; done) | (simp; omega))).trans ((al1_0 rfl).2.1 i)
    have hbw1 : Below w.heap.size w w1 := by (repeat first | with_reducible assumption | with_reducible exact Below.refl _ _ | (with_reducible refine Below.alloc ?_ ?side _; case side => (first | omega | (with_reducible exact Below.size (by assumption)) | (simp; done) | (simp; omega))) | (with_reducible refine Below.setCell ?_ ?side _; case side => (first | omega | (with_reducible exact Below.size (by assumption)) | (simp; done) | (simp; omega))) | with_reducible refine Below.drew ?_ | with_reducible refine below_drewN ?_ _ | (with_reducible refine below_step (by assumption) ?side ?_; case side => (first | omega | (with_reducible exact Below.size (by assumption)) | (simp; done) | (simp; omega))))
    have z1 := hbw1.size
    clear hc1 hf1 hb1
    go_wp2_with (go_at_call 67; refine (looses_c Ap Al np cp nl cl wrg nl pl ls _ HK.out (HPI.out.later (by (repeat first | with_reducible assumption | with_reducible exact Below.refl _ _ | (with_reducible refine Below.alloc ?_ ?side _; case side => (first | omega | (with_reducible exact Below.size (by assumption)) | (simp; done) | (simp; omega))) | (with_reducible refine Below.setCell ?_ ?side _; case side => (first | omega | (with_reducible exact Below.size (by assumption)) | (simp; done) | (simp; omega))) | with_reducible refine Below.drew ?_ | with_reducible refine below_drewN ?_ _ | (with_reducible refine below_step (by assumption) ?side ?_; case side => (first | omega | (with_reducible exact Below.size (by assumption)) | (simp; done) | (simp; omega)))))) (HLI.out.later (by (repeat first | with_reducible assumption | with_reducible exact Below.refl _ _ | (with_reducible refine Below.alloc ?_ ?side _; case side => (first | omega | (with_reducible exact Below.size (by assumption)) | (simp; done) | (simp; omega))) | (with_reducible refine Below.setCell ?_ ?side _; case side => (first | omega | (with_reducible exact Below.size (by assumption)) | (simp; done) | (simp; omega))) | with_reducible refine Below.drew ?_ | with_reducible refine below_drewN ?_ _ | (with_reducible refine below_step (by assumption) ?side ?_; case side => (first | omega | (with_reducible exact Below.size (by assumption)) | (simp; done) | (simp; omega))))))).mono ?_; rw [HLL.out, HM.out]; rintro e w2 ⟨A, c, rfl, hI, hb2⟩; have HI := Lib.hid hI; have d2 := fun i => (hb2.cell (p := ⟨w.heap.size, i, none⟩) n1_0).trans (d0 i); clear hI d0)
    have hbw2 : Below w.heap.size w w2 := by (repeat first | with_reducible assumption | with_reducible exact Below.refl _ _ | (with_reducible refine Below.alloc ?_ ?side _; case side => (first | omega | (with_reducible exact Below.size (by assumption)) | (simp; done) | (simp; omega))) | (with_reducible refine Below.setCell ?_ ?side _; case side => (first | omega | (with_reducible exact Below.size (by assumption)) | (simp; done) | (simp; omega))) | with_reducible refine Below.drew ?_ | with_reducible refine below_drewN ?_ _ | (with_reducible refine below_step (by assumption) ?side ?_; case side => (first | omega | (with_reducible exact Below.size (by assumption)) | (simp; done) | (simp; omega))))
    have z2 := hbw2.size
    clear d2
    go_loopw [6, 7] (fun v i (wr : World) => ∃ k : Nat, k ≤ M ∧ i = .int .i64 k ∧ v = .int .i64 (minC nl (m.take k) : Nat) ∧ Below w2.heap.size w2 wr) (fun _ i _ => M - (intOf i).toNat)
    case atStart => exact ⟨0, by omega, rfl, rfl, Below.refl _ _⟩
    case round =>
      obtain ⟨k, hk, rfl, rfl, hb⟩ := hrel
      have hmin := minC_le nl (m.take k)
      obtain ⟨q, hq⟩ : ∃ q, minC nl (m.take k) = q := ⟨_, rfl⟩
      rw [hq] at hmin ⊢
      have HQ := Lib.hid hq
      clear hq
      by_cases hlt : k < M
      · have hltB : decide ((k : Int) < M) = true := by simp; omega
        have hkm : k < m.length := by rw [HM.out]; exact hlt
        obtain ⟨s, hs⟩ : ∃ s, m[k] = s := ⟨_, rfl⟩
        have hsm : s ∈ m := by rw [← hs]; exact List.getElem_mem hkm
        have hs2 := HLT.out s hsm
        have h256' := h256.out
        have hs256 : s < 256 := by omega
        obtain ⟨bl, ol, rfl, hbl, x0⟩ := (HI.out.later hb).get hlt
        have ei : iAt (m.map fun k : Nat => (k : Int)) k = (s : Int) := by
          unfold iAt; rw [List.getD_eq_getElem?_getD, List.getElem?_map, List.getElem?_eq_getElem hkm, hs]; rfl
        rw [ei] at x0
        have HS1 := Lib.hid (show minC nl (m.take (k + 1)) = min q (cnt 8 s) by rw [List.take_add_one, List.getElem?_eq_getElem hkm, hs]; simp only [Option.toList_some]; rw [minC_snoc, HQ.out])
        have hc8 : cnt 8 s ≤ 8 := by
          have := List.length_filter_le s.testBit (List.range 8)
          simpa [cnt] using this
        clear hs hsm hs2 h256' ei hkm
        have HC : ∀ W, Calls Try.prog 68 #[.int .i64 s] W fun e w' => e = .returned (.int .i64 (cnt 8 s)) ∧ W = w' := fun W => many_c s W hs256
        obtain ⟨c8, h8⟩ : ∃ c, cnt 8 s = c := ⟨_, rfl⟩
        rw [h8] at HS1 hc8
        simp only [h8] at HC
        replace HC := Lib.hid HC
        clear h8
        rcases Nat.le_total q c8 with hqc | hqc
        all_goals
          go_wp2_with (go_at_call 68; refine (HC.out _).mono ?_; rintro e w' ⟨rfl, rfl⟩)
          try (go_quiet ((go_at_call 68; exact quiet_left (HC.out _))))
          try (go_wp2_with fail)
          refine ⟨⟨k + 1, by omega, by simp, ?_, hb⟩, by simp [intOf]; omega⟩
          rw [HS1.out]
          congr 2
          omega
      · obtain rfl : M = k := by omega
        have hltB : decide (((M : Nat) : Int) < M) = false := by simp
        have HQ2 : Hid (minC nl m = q) := by
          have := HQ.out
          rwa [← HM.out, List.take_length] at this
        go_wp2_with fail
        rw [HQ2.out]
        refine bodyPost_ret (v := .tuple #[.int .i64 q, .int .i64 0]) (by simp [results, Try.results41, go_sem]) rfl ⟨rfl, by (repeat first | with_reducible assumption | with_reducible exact Below.refl _ _ | (with_reducible refine Below.alloc ?_ ?side _; case side => (first | omega | (with_reducible exact Below.size (by assumption)) | (simp; done) | (simp; omega))) | (with_reducible refine Below.setCell ?_ ?side _; case side => (first | omega | (with_reducible exact Below.size (by assumption)) | (simp; done) | (simp; omega))) | with_reducible refine Below.drew ?_ | with_reducible refine below_drewN ?_ _ | (with_reducible refine below_step (by assumption) ?side ?_; case side => (first | omega | (with_reducible exact Below.size (by assumption)) | (simp; done) | (simp; omega))))⟩
set_option maxRecDepth 100000 in
set_option maxHeartbeats 1600000 in
theorem refAsk_c (Ap Al : Option Addr) (np cp nl cl : Nat) (wrg : Int) (is : Bool) (pl : List Sp) (ls : List Ln) (w : World) (hp : np ≤ 40) (hl : nl ≤ 40) (HP : SpsAt w Ap np pl) (HL : LnsAt w Al nl ls) :
    Calls Try.prog 56 #[.agg #[.slice Ap np cp, .slice Al nl cl, .int .i64 wrg], .bool is] w
      fun e w' => (bif askF np nl pl ls wrg is == 0 then ∃ A c, e = .returned (.tuple #[.slice A (loL np nl pl ls wrg).length c, .int .i64 0]) ∧ IntsAt w' A (loL np nl pl ls wrg).length ((loL np nl pl ls wrg).map fun k : Nat => (k : Int)) else e = .returned (.tuple #[.slice none 0 0, .int .i64 (askF np nl pl ls wrg is)])) ∧ Below w.heap.size w w' := by
  have HPI := Lib.hid HP
  have HLI := Lib.hid HL
  cases hck : ckBk np nl pl ls wrg
  · have e0 : erB (ckBk np nl pl ls wrg) = 110 := by rw [hck]; rfl
    have ef : askF np nl pl ls wrg is = 110 := by rw [askF, hck]; rfl
    rw [ef]
    simp only [show ((110 : Int) == 0) = false from rfl, cond_false]
    clear HP HL hck
    go_enter Try.func56, Try.ntmps56
    go_wp2_with (go_at_call 38; refine (refCheck_c Ap Al np cp nl cl wrg pl ls _ hp hl (HPI.out.later (by (repeat first | with_reducible assumption | with_reducible exact Below.refl _ _ | refine below_drewN ?_ _ | refine Below.drew ?_ | refine Below.alloc ?_ (by first | omega | (with_reducible exact Below.size (by assumption)) | (simp; done) | (simp; omega)) _ | refine Below.setCell ?_ (by first | omega | (with_reducible exact Below.size (by assumption)) | (simp; done) | (simp; omega)) _ | refine below_step (by assumption) (by first | omega | (with_reducible exact Below.size (by assumption)) | (simp; done) | (simp; omega)) ?_))) (HLI.out.later (by (repeat first | with_reducible assumption | with_reducible exact Below.refl _ _ | refine below_drewN ?_ _ | refine Below.drew ?_ | refine Below.alloc ?_ (by first | omega | (with_reducible exact Below.size (by assumption)) | (simp; done) | (simp; omega)) _ | refine Below.setCell ?_ (by first | omega | (with_reducible exact Below.size (by assumption)) | (simp; done) | (simp; omega)) _ | refine below_step (by assumption) (by first | omega | (with_reducible exact Below.size (by assumption)) | (simp; done) | (simp; omega)) ?_)))).mono ?_; rw [e0]; (rintro e w1 ⟨rfl, hb1⟩; obtain ⟨hc1, hf1⟩ := bcell hb1; have zs1 := hb1.size; (try simp at zs1); have n1_0 : w.heap.size < w1.heap.size := (by omega)))
    exact bodyPost_ret (v := .tuple #[.slice none 0 0, .int .i64 110]) (by simp [results, Try.results56, go_sem]) rfl ⟨rfl, by (repeat first | with_reducible assumption | with_reducible exact Below.refl _ _ | (with_reducible refine Below.alloc ?_ ?side _; case side => (first | omega | (with_reducible exact Below.size (by assumption)) | (simp; done) | (simp; omega))) | (with_reducible refine Below.setCell ?_ ?side _; case side => (first | omega | (with_reducible exact Below.size (by assumption)) | (simp; done) | (simp; omega))) | with_reducible refine Below.drew ?_ | with_reducible refine below_drewN ?_ _ | (with_reducible refine below_step (by assumption) ?side ?_; case side => (first | omega | (with_reducible exact Below.size (by assumption)) | (simp; done) | (simp; omega))))⟩
  have e0 : erB (ckBk np nl pl ls wrg) = 0 := by rw [hck]; rfl
  obtain ⟨hok, -, -⟩ := okBk_of HP.1 HL.1 hck
  have HK := Lib.hid hok
  cases is
  · have ef : askF np nl pl ls wrg false = 1 := by rw [askF, hck]; rfl
    rw [ef]
    simp only [show ((1 : Int) == 0) = false from rfl, cond_false]
    clear HP HL hck hok
    go_enter Try.func56, Try.ntmps56
    go_wp2_with (go_at_call 38; refine (refCheck_c Ap Al np cp nl cl wrg pl ls _ hp hl (HPI.out.later (by (repeat first | with_reducible assumption | with_reducible exact Below.refl _ _ | refine below_drewN ?_ _ | refine Below.drew ?_ | refine Below.alloc ?_ (by first | omega | (with_reducible exact Below.size (by assumption)) | (simp; done) | (simp; omega)) _ | refine Below.setCell ?_ (by first | omega | (with_reducible exact Below.size (by assumption)) | (simp; done) | (simp; omega)) _ | refine below_step (by assumption) (by first | omega | (with_reducible exact Below.size (by assumption)) | (simp; done) | (simp; omega)) ?_))) (HLI.out.later (by (repeat first | with_reducible assumption | with_reducible exact Below.refl _ _ | refine below_drewN ?_ _ | refine Below.drew ?_ | refine Below.alloc ?_ (by first | omega | (with_reducible exact Below.size (by assumption)) | (simp; done) | (simp; omega)) _ | refine Below.setCell ?_ (by first | omega | (with_reducible exact Below.size (by assumption)) | (simp; done) | (simp; omega)) _ | refine below_step (by assumption) (by first | omega | (with_reducible exact Below.size (by assumption)) | (simp; done) | (simp; omega)) ?_)))).mono ?_; rw [e0]; (rintro e w1 ⟨rfl, hb1⟩; obtain ⟨hc1, hf1⟩ := bcell hb1; have zs1 := hb1.size; (try simp at zs1); have n1_0 : w.heap.size < w1.heap.size := (by omega)))
    exact bodyPost_ret (v := .tuple #[.slice none 0 0, .int .i64 1]) (by simp [results, Try.results56, go_sem]) rfl ⟨rfl, by (repeat first | with_reducible assumption | with_reducible exact Below.refl _ _ | (with_reducible refine Below.alloc ?_ ?side _; case side => (first | omega | (with_reducible exact Below.size (by assumption)) | (simp; done) | (simp; omega))) | (with_reducible refine Below.setCell ?_ ?side _; case side => (first | omega | (with_reducible exact Below.size (by assumption)) | (simp; done) | (simp; omega))) | with_reducible refine Below.drew ?_ | with_reducible refine below_drewN ?_ _ | (with_reducible refine below_step (by assumption) ?side ?_; case side => (first | omega | (with_reducible exact Below.size (by assumption)) | (simp; done) | (simp; omega))))⟩
  · obtain ⟨l, hll⟩ : ∃ l, loL np nl pl ls wrg = l := ⟨_, rfl⟩
    have ef : askF np nl pl ls wrg true = bif l.isEmpty then 3 else 0 := by rw [askF, hck, hll]; rfl
    rw [ef, hll]
    have HLL := Lib.hid hll
    clear HP HL hck hok hll
    rcases l with _ | ⟨x, l⟩
    · show Calls _ _ _ _ fun e w' => e = .returned (.tuple #[.slice none 0 0, .int .i64 3]) ∧ Below w.heap.size w w'
      go_enter Try.func56, Try.ntmps56
      go_wp2_with (go_at_call 38; refine (refCheck_c Ap Al np cp nl cl wrg pl ls _ hp hl (HPI.out.later (by (repeat first | with_reducible assumption | with_reducible exact Below.refl _ _ | refine below_drewN ?_ _ | refine Below.drew ?_ | refine Below.alloc ?_ (by first | omega | (with_reducible exact Below.size (by assumption)) | (simp; done) | (simp; omega)) _ | refine Below.setCell ?_ (by first | omega | (with_reducible exact Below.size (by assumption)) | (simp; done) | (simp; omega)) _ | refine below_step (by assumption) (by first | omega | (with_reducible exact Below.size (by assumption)) | (simp; done) | (simp; omega)) ?_))) (HLI.out.later (by (repeat first | with_reducible assumption | with_reducible exact Below.refl _ _ | refine below_drewN ?_ _ | refine Below.drew ?_ | refine Below.alloc ?_ (by first | omega | (with_reducible exact Below.size (by assumption)) | (simp; done) | (simp; omega)) _ | refine Below.setCell ?_ (by first | omega | (with_reducible exact Below.size (by assumption)) | (simp; done) | (simp; omega)) _ | refine below_step (by assumption) (by first | omega | (with_reducible exact Below.size (by assumption)) | (simp; done) | (simp; omega)) ?_)))).mono ?_; rw [e0]; (rintro e w1 ⟨rfl, hb1⟩; obtain ⟨hc1, hf1⟩ := bcell hb1; have zs1 := hb1.size; (try simp at zs1); have n1_0 : w.heap.size < w1.heap.size := (by omega)))
      have d0 := fun i => (hc1 w.heap.size i (by first | omega | (simp; done) | (simp; omega))).trans ((al1_0 rfl).2.1 i)
      have hbw1 : Below w.heap.size w w1 := by (repeat first | with_reducible assumption | with_reducible exact Below.refl _ _ | (with_reducible refine Below.alloc ?_ ?side _; case side => (first | omega | (with_reducible exact Below.size (by assumption)) | (simp; done) | (simp; omega))) | (with_reducible refine Below.setCell ?_ ?side _; case side => (first | omega | (with_reducible exact Below.size (by assumption)) | (simp; done) | (simp; omega))) | with_reducible refine Below.drew ?_ | with_reducible refine below_drewN ?_ _ | (with_reducible refine below_step (by assumption) ?side ?_; case side => (first | omega | (with_reducible exact Below.size (by assumption)) | (simp; done) | (simp; omega))))
      have z1 := hbw1.size
      clear hc1 hf1 hb1
      go_wp2_with (go_at_call 67; refine (looses_c Ap Al np cp nl cl wrg wrg pl ls _ HK.out (HPI.out.later (by (repeat first | with_reducible assumption | with_reducible exact Below.refl _ _ | (with_reducible refine Below.alloc ?_ ?side _; case side => (first | omega | (with_reducible exact Below.size (by assumption)) | (simp; done) | (simp; omega))) | (with_reducible refine Below.setCell ?_ ?side _; case side => (first | omega | (with_reducible exact Below.size (by assumption)) | (simp; done) | (simp; omega))) | with_reducible refine Below.drew ?_ | with_reducible refine below_drewN ?_ _ | (with_reducible refine below_step (by assumption) ?side ?_; case side => (first | omega | (with_reducible exact Below.size (by assumption)) | (simp; done) | (simp; omega)))))) (HLI.out.later (by (repeat first | with_reducible assumption | with_reducible exact Below.refl _ _ | (with_reducible refine Below.alloc ?_ ?side _; case side => (first | omega | (with_reducible exact Below.size (by assumption)) | (simp; done) | (simp; omega))) | (with_reducible refine Below.setCell ?_ ?side _; case side => (first | omega | (with_reducible exact Below.size (by assumption)) | (simp; done) | (simp; omega))) | with_reducible refine Below.drew ?_ | with_reducible refine below_drewN ?_ _ | (with_reducible refine below_step (by assumption) ?side ?_; case side => (first | omega | (with_reducible exact Below.size (by assumption)) | (simp; done) | (simp; omega))))))).mono ?_; rw [HLL.out]; rintro e w2 ⟨A, c, rfl, hI, hb2⟩)
      exact bodyPost_ret (v := .tuple #[.slice none 0 0, .int .i64 3]) (by simp [results, Try.results56, go_sem]) rfl ⟨rfl, by (repeat first | with_reducible assumption | with_reducible exact Below.refl _ _ | (with_reducible refine Below.alloc ?_ ?side _; case side => (first | omega | (with_reducible exact Below.size (by assumption)) | (simp; done) | (simp; omega))) | (with_reducible refine Below.setCell ?_ ?side _; case side => (first | omega | (with_reducible exact Below.size (by assumption)) | (simp; done) | (simp; omega))) | with_reducible refine Below.drew ?_ | with_reducible refine below_drewN ?_ _ | (with_reducible refine below_step (by assumption) ?side ?_; case side => (first | omega | (with_reducible exact Below.size (by assumption)) | (simp; done) | (simp; omega))))⟩
    · obtain ⟨m, hm⟩ : ∃ m, x :: l = m := ⟨_, rfl⟩
      have hm0 : 0 < m.length := by rw [← hm]; simp
      show Calls _ _ _ _ fun e w' => (∃ A c, e = .returned (.tuple #[.slice A (x :: l).length c, .int .i64 0]) ∧ IntsAt w' A (x :: l).length ((x :: l).map fun k : Nat => (k : Int))) ∧ Below w.heap.size w w'
      rw [hm] at HLL ⊢
      clear hm
      obtain ⟨M, hM⟩ : ∃ M, m.length = M := ⟨_, rfl⟩
      rw [hM] at hm0 ⊢
      have hmB : (((M : Nat) : Int) == 0) = false := by simp; omega
      have HM := Lib.hid hM
      clear hM
      go_enter Try.func56, Try.ntmps56
      go_wp2_with (go_at_call 38; refine (refCheck_c Ap Al np cp nl cl wrg pl ls _ hp hl (HPI.out.later (by (repeat first | with_reducible assumption | with_reducible exact Below.refl _ _ | refine below_drewN ?_ _ | refine Below.drew ?_ | refine Below.alloc ?_ (by first | omega | (with_reducible exact Below.size (by assumption)) | (simp; done) | (simp; omega)) _ | refine Below.setCell ?_ (by first | omega | (with_reducible exact Below.size (by assumption)) | (simp; done) | (simp; omega)) _ | refine below_step (by assumption) (by first | omega | (with_reducible exact Below.size (by assumption)) | (simp; done) | (simp; omega)) ?_))) (HLI.out.later (by (repeat first | with_reducible assumption | with_reducible exact Below.refl _ _ | refine below_drewN ?_ _ | refine Below.drew ?_ | refine Below.alloc ?_ (by first | omega | (with_reducible exact Below.size (by assumption)) | (simp; done) | (simp; omega)) _ | refine Below.setCell ?_ (by first | omega | (with_reducible exact Below.size (by assumption)) | (simp; done) | (simp; omega)) _ | refine below_step (by assumption) (by first | omega | (with_reducible exact Below.size (by assumption)) | (simp; done) | (simp; omega)) ?_)))).mono ?_; rw [e0]; (rintro e w1 ⟨rfl, hb1⟩; obtain ⟨hc1, hf1⟩ := bcell hb1; have zs1 := hb1.size; (try simp at zs1); have n1_0 : w.heap.size < w1.heap.size := (by omega)))
      have d0 := fun i => (hc1 w.heap.size i (by first | omega | (simp; done) | (simp; omega))).trans ((al1_0 rfl).2.1 i)
      have hbw1 : Below w.heap.size w w1 := by (repeat first | with_reducible assumption | with_reducible exact Below.refl _ _ | (with_reducible refine Below.alloc ?_ ?side _; case side => (first | omega | (with_reducible exact Below.size (by assumption)) | (simp; done) | (simp; omega))) | (with_reducible refine Below.setCell ?_ ?side _; case side => (first | omega | (with_reducible exact Below.size (by assumption)) | (simp; done) | (simp; omega))) | with_reducible refine Below.drew ?_ | with_reducible refine below_drewN ?_ _ | (with_reducible refine below_step (by assumption) ?side ?_; case side => (first | omega | (with_reducible exact Below.size (by assumption)) | (simp; done) | (simp; omega))))
      have z1 := hbw1.size
      clear hc1 hf1 hb1
      go_wp2_with (go_at_call 67; refine (looses_c Ap Al np cp nl cl wrg wrg pl ls _ HK.out (HPI.out.later (by (repeat first | with_reducible assumption | with_reducible exact Below.refl _ _ | (with_reducible refine Below.alloc ?_ ?side _; case side => (first | omega | (with_reducible exact Below.size (by assumption)) | (simp; done) | (simp; omega))) | (with_reducible refine Below.setCell ?_ ?side _; case side => (first | omega | (with_reducible exact Below.size (by assumption)) | (simp; done) | (simp; omega))) | with_reducible refine Below.drew ?_ | with_reducible refine below_drewN ?_ _ | (with_reducible refine below_step (by assumption) ?side ?_; case side => (first | omega | (with_reducible exact Below.size (by assumption)) | (simp; done) | (simp; omega)))))) (HLI.out.later (by (repeat first | with_reducible assumption | with_reducible exact Below.refl _ _ | (with_reducible refine Below.alloc ?_ ?side _; case side => (first | omega | (with_reducible exact Below.size (by assumption)) | (simp; done) | (simp; omega))) | (with_reducible refine Below.setCell ?_ ?side _; case side => (first | omega | (with_reducible exact Below.size (by assumption)) | (simp; done) | (simp; omega))) | with_reducible refine Below.drew ?_ | with_reducible refine below_drewN ?_ _ | (with_reducible refine below_step (by assumption) ?side ?_; case side => (first | omega | (with_reducible exact Below.size (by assumption)) | (simp; done) | (simp; omega))))))).mono ?_; rw [HLL.out, HM.out]; rintro e w2 ⟨A, c, rfl, hI, hb2⟩; have HI := Lib.hid hI; clear hI)
      exact bodyPost_ret (v := .tuple #[.slice A M c, .int .i64 0]) (by simp [results, Try.results56, go_sem]) rfl ⟨⟨A, c, rfl, HI.out⟩, by (repeat first | with_reducible assumption | with_reducible exact Below.refl _ _ | (with_reducible refine Below.alloc ?_ ?side _; case side => (first | omega | (with_reducible exact Below.size (by assumption)) | (simp; done) | (simp; omega))) | (with_reducible refine Below.setCell ?_ ?side _; case side => (first | omega | (with_reducible exact Below.size (by assumption)) | (simp; done) | (simp; omega))) | with_reducible refine Below.drew ?_ | with_reducible refine below_drewN ?_ _ | (with_reducible refine below_step (by assumption) ?side ?_; case side => (first | omega | (with_reducible exact Below.size (by assumption)) | (simp; done) | (simp; omega))))⟩

def endF (np nl : Nat) (pl : List Sp) (ls : List Ln) (wrg free place : Int) : Sp := hull ((loL np nl pl ls wrg).map (rBnd np nl pl ls free place))
def endK (np nl : Nat) (pl : List Sp) (ls : List Ln) (wrg free place : Int) (k : Nat) : Sp := hull (((loL np nl pl ls wrg).take k).map (rBnd np nl pl ls free place))
theorem endK_succ {np nl : Nat} {pl : List Sp} {ls : List Ln} {wrg free place : Int} {k s : Nat} (h : (loL np nl pl ls wrg)[k]? = some s) :
    endK np nl pl ls wrg free place (k + 1) = bif k == 0 then rBnd np nl pl ls free place s else joinSp (endK np nl pl ls wrg free place k) (rBnd np nl pl ls free place s) := by
  have hk : k < (loL np nl pl ls wrg).length := (List.getElem?_eq_some_iff.1 h).1
  rw [endK, List.take_add_one, h, List.map_append]
  cases k with
  | zero => rfl
  | succ k' =>
    show hull (_ ++ [rBnd np nl pl ls free place s]) = _
    rw [hull_snoc _ _ (by
      intro h0
      have := congrArg List.length h0
      rw [List.length_map, List.length_take, Nat.min_eq_left (by omega)] at this
      cases this)]
    rfl
theorem keep4 {wr w' : World} {p0 p1 p2 p3 : Addr} {v0 v1 v2 v3 : Value} (hb : Below wr.heap.size wr w') (h0 : wr.cell? p0 = some v0) (h1 : wr.cell? p1 = some v1) (h2 : wr.cell? p2 = some v2) (h3 : wr.cell? p3 = some v3)
    (l0 : p0.block < wr.heap.size) (l1 : p1.block < wr.heap.size) (l2 : p2.block < wr.heap.size) (l3 : p3.block < wr.heap.size) : w'.cell? p0 = some v0 ∧ w'.cell? p1 = some v1 ∧ w'.cell? p2 = some v2 ∧ w'.cell? p3 = some v3 :=
  ⟨(hb.cell l0).trans h0, (hb.cell l1).trans h1, (hb.cell l2).trans h2, (hb.cell l3).trans h3⟩
set_option maxRecDepth 100000 in
set_option maxHeartbeats 1600000 in
theorem refEnds_c (Ap Al A : Option Addr) (np cp nl cl n c : Nat) (wrg free place : Int) (pl : List Sp) (ls : List Ln) (w : World) (hn : (loL np nl pl ls wrg).length = n) (hok : OkBk np nl pl ls) (HP : SpsAt w Ap np pl) (HL : LnsAt w Al nl ls) (HI : IntsAt w A n ((loL np nl pl ls wrg).map fun k : Nat => (k : Int)))
    (hf : free = -1 ∨ ∃ f : Nat, free = f ∧ f < 2 * nl) (hpl : place = -1 ∨ ∃ f : Nat, place = f ∧ f < np + 1) :
    Calls Try.prog 57 #[.agg #[.slice Ap np cp, .slice Al nl cl, .int .i64 wrg], .slice A n c, .int .i64 free, .int .i64 place] w
      fun e w' => e = .returned (.agg #[.int .i64 (endF np nl pl ls wrg free place).lo, .int .i64 (endF np nl pl ls wrg free place).hi]) ∧ Below w.heap.size w w' := by
  have HPI := Lib.hid HP
  have HLI := Lib.hid HL
  have HII := Lib.hid HI
  have HK := Lib.hid hok
  have hp5 := hok.hp
  have hl8 := hok.hl
  have HF := Lib.hid hf
  have HPl := Lib.hid hpl
  have HN := Lib.hid hn
  have h256 : 2 ^ nl ≤ 256 := by
    have h2 : 2 ^ nl ≤ 2 ^ 8 := Nat.pow_le_pow_right (by omega) hl8
    omega
  have hle : n ≤ 256 := by
    rw [← hn]
    have h1 := loK_len (np := np) (nl := nl) (pl := pl) (ls := ls) (most := wrg) (2 ^ nl)
    simp only [loL]
    omega
  replace h256 := Lib.hid h256
  have hE : Hid (endF np nl pl ls wrg free place = endK np nl pl ls wrg free place n) := by
    show _ = _
    rw [endF, endK, ← hn, List.take_length]
  clear HP HL HI hok hf hpl hn
  go_enter Try.func57, Try.ntmps57
  go_wp2_with fail
  go_name_world W hW
  obtain ⟨hB, hz⟩ := al3 hW
  obtain ⟨l_0, q_0, f_0⟩ := al3_0 hW
  obtain ⟨l_1, q_1, f_1⟩ := al3_1 hW
  obtain ⟨l_2, q_2, f_2⟩ := al3_2 hW
  have HZ := Lib.hid hz
  have zs := hB.size
  clear hW hz
  go_loopw [10] (fun i (wr : World) => ∃ k : Nat, k ≤ n ∧ i = .int .i64 k ∧ wr.cell? ⟨w.heap.size + 1 + 1, 0, none⟩ = some (.int .i64 (endK np nl pl ls wrg free place k).lo) ∧ wr.cell? ⟨w.heap.size + 1 + 1, 1, none⟩ = some (.int .i64 (endK np nl pl ls wrg free place k).hi) ∧ wr.frozen? ⟨w.heap.size + 1 + 1, 0, none⟩ = false ∧ wr.frozen? ⟨w.heap.size + 1 + 1, 1, none⟩ = false ∧ Below (w.heap.size + 1 + 1) W wr) (fun i _ => n - (intOf i).toNat)
  case atStart => exact ⟨0, by omega, rfl, q_2 0, q_2 1, f_2 0, f_2 1, Below.refl _ _⟩
  case round =>
    obtain ⟨k, hk, rfl, x0, x1, xf0, xf1, hb⟩ := hrel
    obtain ⟨hc, hf⟩ := bcell hb
    have zb := hb.size
    have m0 : w.heap.size < wr.heap.size := by omega
    have m1 : w.heap.size + 1 < wr.heap.size := by omega
    have m2 : w.heap.size + 1 + 1 < wr.heap.size := by omega
    have hbw : Below w.heap.size w wr := hB.trans (hb.mono (by omega))
    have y0 := fun i => (hc w.heap.size i (by omega)).trans (q_0 i)
    have y1 := fun i => (hc (w.heap.size + 1) i (by omega)).trans (q_1 i)
    have yf := fun i => (hf (w.heap.size + 1) i (by omega)).trans (f_1 i)
    clear hc hf q_0 q_1 q_2 f_0 f_1 f_2
    obtain ⟨o, ho⟩ : ∃ o, endK np nl pl ls wrg free place k = o := ⟨_, rfl⟩
    rw [ho] at x0 x1
    by_cases hlt : k < n
    · have hltB : decide ((k : Int) < n) = true := by simp; omega
      have hkm : k < (loL np nl pl ls wrg).length := by rw [HN.out]; exact hlt
      obtain ⟨s, hs⟩ : ∃ s, (loL np nl pl ls wrg)[k] = s := ⟨_, rfl⟩
      have hsm : s ∈ loL np nl pl ls wrg := by rw [← hs]; exact List.getElem_mem hkm
      have hs2 := loL_lt hsm
      have h256' := h256.out
      have hs256 : s < 256 := by omega
      obtain ⟨bl, ol, rfl, hbl, x2⟩ := (HII.out.later hbw).get hlt
      have ei : iAt ((loL np nl pl ls wrg).map fun k : Nat => (k : Int)) k = (s : Int) := by
        unfold iAt; rw [List.getD_eq_getElem?_getD, List.getElem?_map, List.getElem?_eq_getElem hkm, hs]; rfl
      rw [ei] at x2
      have hnx := Lib.hid (endK_succ (free := free) (place := place) (show (loL np nl pl ls wrg)[k]? = some s by rw [List.getElem?_eq_getElem hkm, hs]))
      clear hs hsm hs2 h256' ei hkm
      obtain ⟨bb, hbb⟩ : ∃ b, bndB (2 * nl) (np + 1) (opTo np ls s nl) (opSt pl) free place = b := ⟨_, rfl⟩
      obtain ⟨sp, hsp⟩ : ∃ b, rBnd np nl pl ls free place s = b := ⟨_, rfl⟩
      have HBC : Hid (∀ A1 c1 A2 c2 W', PpsAt W' A1 (2 * nl) (opTo np ls s nl) → SpsAt W' A2 (np + 1) (opSt pl) → Calls Try.prog 77 #[.agg #[.slice A1 (2 * nl) c1, .slice A2 (np + 1) c2], .int .i64 free, .int .i64 place] W' fun e w' => e = .returned (.tuple #[.agg #[.int .i64 sp.lo, .int .i64 sp.hi], .bool bb]) ∧ Below W'.heap.size W' w') := fun A1 c1 A2 c2 W' h1 h2 => by
        rw [← hsp, ← hbb]
        exact bounds_c A1 A2 (2 * nl) (np + 1) c1 c2 free place (opTo np ls s nl) (opSt pl) W' (bndOk_of HK.out s HF.out HPl.out) h1 h2
      rw [hsp, ho] at hnx
      replace ho := Lib.hid ho
      clear hsp hbb
      go_wp2_with fail
      go_region_held3 (fun w' => w'.cell? ⟨w.heap.size, 0, none⟩ = some (.slice Ap np cp) ∧ w'.cell? ⟨w.heap.size, 1, none⟩ = some (.slice Al nl cl) ∧ w'.cell? ⟨w.heap.size, 2, none⟩ = some (.int .i64 wrg) ∧ w'.cell? ⟨bl, ol + k, none⟩ = some (.int .i64 s))
        (exact keep4 (wr := wr) (by (repeat first | with_reducible assumption | with_reducible exact Below.refl _ _ | (with_reducible refine Below.alloc ?_ ?side _; case side => (first | omega | (with_reducible exact Below.size (by assumption)) | (simp; done) | (simp; omega))) | (with_reducible refine Below.setCell ?_ ?side _; case side => (first | omega | (with_reducible exact Below.size (by assumption)) | (simp; done) | (simp; omega))) | with_reducible refine Below.drew ?_ | with_reducible refine below_drewN ?_ _ | (with_reducible refine below_step (by assumption) ?side ?_; case side => (first | omega | (with_reducible exact Below.size (by assumption)) | (simp; done) | (simp; omega))))) (y0 0) (y0 1) (y0 2) x2 m0 m0 m0 hbl)
        (first
          | (go_at_call 76; refine (open_c Ap Al np cp nl cl s wrg pl ls _ (by omega) (by omega) (by omega) (HPI.out.later (by (repeat first | with_reducible assumption | with_reducible exact Below.refl _ _ | (with_reducible refine Below.alloc ?_ ?side _; case side => (first | omega | (with_reducible exact Below.size (by assumption)) | (simp; done) | (simp; omega))) | (with_reducible refine Below.setCell ?_ ?side _; case side => (first | omega | (with_reducible exact Below.size (by assumption)) | (simp; done) | (simp; omega))) | with_reducible refine Below.drew ?_ | with_reducible refine below_drewN ?_ _ | (with_reducible refine below_step (by assumption) ?side ?_; case side => (first | omega | (with_reducible exact Below.size (by assumption)) | (simp; done) | (simp; omega)))))) (HLI.out.later (by (repeat first | with_reducible assumption | with_reducible exact Below.refl _ _ | (with_reducible refine Below.alloc ?_ ?side _; case side => (first | omega | (with_reducible exact Below.size (by assumption)) | (simp; done) | (simp; omega))) | (with_reducible refine Below.setCell ?_ ?side _; case side => (first | omega | (with_reducible exact Below.size (by assumption)) | (simp; done) | (simp; omega))) | with_reducible refine Below.drew ?_ | with_reducible refine below_drewN ?_ _ | (with_reducible refine below_step (by assumption) ?side ?_; case side => (first | omega | (with_reducible exact Below.size (by assumption)) | (simp; done) | (simp; omega))))))).mono ?_; rintro e w2 ⟨A1, c1, A2, c2, rfl, o1, o2, hb2⟩; have O1 := Lib.hid o1; have O2 := Lib.hid o2; have z2 := hb2.size; (try simp only [World.size_alloc, World.size_drew] at z2); clear o1 o2; (try (have ca2 := fun i => (hb2.cell (p := ⟨wr.heap.size, i, none⟩) (by first | omega | (simp; done) | (simp; omega))).trans ((al1_0 rfl).2.1 i); have fa2 := fun i => (hb2.frozen (p := ⟨wr.heap.size, i, none⟩) (by first | omega | (simp; done) | (simp; omega))).trans ((al1_0 rfl).2.2 i); have la2 : wr.heap.size < w2.heap.size := (by omega))))
          | (go_at_call 77; refine (HBC.out A1 c1 A2 c2 _ (O1.out.later (by (repeat first | with_reducible assumption | with_reducible exact Below.refl _ _ | (with_reducible refine Below.alloc ?_ ?side _; case side => (first | omega | (with_reducible exact Below.size (by assumption)) | (simp; done) | (simp; omega))) | (with_reducible refine Below.setCell ?_ ?side _; case side => (first | omega | (with_reducible exact Below.size (by assumption)) | (simp; done) | (simp; omega))) | with_reducible refine Below.drew ?_ | with_reducible refine below_drewN ?_ _ | (with_reducible refine below_step (by assumption) ?side ?_; case side => (first | omega | (with_reducible exact Below.size (by assumption)) | (simp; done) | (simp; omega)))))) (O2.out.later (by (repeat first | with_reducible assumption | with_reducible exact Below.refl _ _ | (with_reducible refine Below.alloc ?_ ?side _; case side => (first | omega | (with_reducible exact Below.size (by assumption)) | (simp; done) | (simp; omega))) | (with_reducible refine Below.setCell ?_ ?side _; case side => (first | omega | (with_reducible exact Below.size (by assumption)) | (simp; done) | (simp; omega))) | with_reducible refine Below.drew ?_ | with_reducible refine below_drewN ?_ _ | (with_reducible refine below_step (by assumption) ?side ?_; case side => (first | omega | (with_reducible exact Below.size (by assumption)) | (simp; done) | (simp; omega))))))).mono ?_; rintro e w3 ⟨rfl, hb3⟩; have z3 := hb3.size; (try simp only [World.size_alloc] at z3); have BR : Below wr.heap.size wr w3 := (by (repeat first | with_reducible assumption | with_reducible exact Below.refl _ _ | (with_reducible refine Below.alloc ?_ ?side _; case side => (first | omega | (with_reducible exact Below.size (by assumption)) | (simp; done) | (simp; omega))) | (with_reducible refine Below.setCell ?_ ?side _; case side => (first | omega | (with_reducible exact Below.size (by assumption)) | (simp; done) | (simp; omega))) | with_reducible refine Below.drew ?_ | with_reducible refine below_drewN ?_ _ | (with_reducible refine below_step (by assumption) ?side ?_; case side => (first | omega | (with_reducible exact Below.size (by assumption)) | (simp; done) | (simp; omega))))); have o0 := (BR.cell (p := ⟨w.heap.size + 1 + 1, 0, none⟩) m2).trans x0; have o1 := (BR.cell (p := ⟨w.heap.size + 1 + 1, 1, none⟩) m2).trans x1; have of0 := (BR.frozen (p := ⟨w.heap.size + 1 + 1, 0, none⟩) m2).trans xf0; have of1 := (BR.frozen (p := ⟨w.heap.size + 1 + 1, 1, none⟩) m2).trans xf1; have zR := BR.size; have m3 : w.heap.size + 1 + 1 < w3.heap.size := (by omega); have e3 : ¬ (w.heap.size + 1 + 1 = w3.heap.size) := (by omega); have e3' : ¬ (w3.heap.size = w.heap.size + 1 + 1) := (by omega); have e4 : ¬ (w.heap.size + 1 + 1 = w2.heap.size) := (by omega); have e4' : ¬ (w2.heap.size = w.heap.size + 1 + 1) := (by omega); have e5 : ¬ (w.heap.size + 1 + 1 = wr.heap.size) := (by omega); have e5' : ¬ (wr.heap.size = w.heap.size + 1 + 1) := (by omega); (first | (have ca3 := fun i => (hb3.cell (p := ⟨wr.heap.size, i, none⟩) (by first | omega | (simp; done) | (simp; omega))).trans (ca2 i); have fa3 := fun i => (hb3.frozen (p := ⟨wr.heap.size, i, none⟩) (by first | omega | (simp; done) | (simp; omega))).trans (fa2 i); have la3 : wr.heap.size < w3.heap.size := (by omega)) | (have ca3 := fun i => (hb3.cell (p := ⟨w2.heap.size, i, none⟩) (by first | omega | (simp; done) | (simp; omega))).trans ((al1_0 rfl).2.1 i); have fa3 := fun i => (hb3.frozen (p := ⟨w2.heap.size, i, none⟩) (by first | omega | (simp; done) | (simp; omega))).trans ((al1_0 rfl).2.2 i); have la3 : w2.heap.size < w3.heap.size := (by omega)) | skip)))
      all_goals
        by_cases hk0 : k = 0
        · have hkB : ((k : Int) == 0) = true := by simp; omega
          have hn2 : Hid (endK np nl pl ls wrg free place (k + 1) = sp) := by
            have := hnx.out
            rw [hk0] at this ⊢
            exact this
          go_wp2_with fail
          all_goals
            refine ⟨⟨k + 1, by omega, (by first | (simp; done) | (simp; omega)), ?_, ?_, ?_, ?_, ?_⟩, (by first | (simp [intOf]; done) | (simp [intOf]; omega))⟩
            · rw [hn2.out]
              skip
              (repeat first | with_reducible assumption | (with_reducible refine (World.cell?_alloc_lt _ _ _ ?side).trans ?_; case side => (first | omega | (simp; done) | (simp; omega))) | with_reducible refine World.cell?_setCell_same' _ _ _ ?_ | (with_reducible refine (World.cell?_setCell_other _ _ _ _ ?side).trans ?_; case side => (simp; done)) | with_reducible refine some_set ?_ | with_reducible exact some_of (by assumption))
            · rw [hn2.out]
              skip
              (repeat first | with_reducible assumption | (with_reducible refine (World.cell?_alloc_lt _ _ _ ?side).trans ?_; case side => (first | omega | (simp; done) | (simp; omega))) | with_reducible refine World.cell?_setCell_same' _ _ _ ?_ | (with_reducible refine (World.cell?_setCell_other _ _ _ _ ?side).trans ?_; case side => (simp; done)) | with_reducible refine some_set ?_ | with_reducible exact some_of (by assumption))
            · (first | (simp only [frozen?_alloc_cells, World.frozen?_setCell]; assumption) | (simp only [frozen?_alloc_cells, World.frozen?_setCell, World.frozen?_drew]; assumption))
            · (first | (simp only [frozen?_alloc_cells, World.frozen?_setCell]; assumption) | (simp only [frozen?_alloc_cells, World.frozen?_setCell, World.frozen?_drew]; assumption))
            · (repeat first | with_reducible assumption | with_reducible exact Below.refl _ _ | (with_reducible refine Below.alloc ?_ ?side _; case side => (first | omega | (with_reducible exact Below.size (by assumption)) | (simp; done) | (simp; omega))) | (with_reducible refine Below.setCell ?_ ?side _; case side => (first | omega | (with_reducible exact Below.size (by assumption)) | (simp; done) | (simp; omega))) | with_reducible refine Below.drew ?_ | with_reducible refine below_drewN ?_ _ | (with_reducible refine below_step (by assumption) ?side ?_; case side => (first | omega | (with_reducible exact Below.size (by assumption)) | (simp; done) | (simp; omega))))
        · have hkB : ((k : Int) == 0) = false := by simp; omega
          have hn2 : Hid (endK np nl pl ls wrg free place (k + 1) = joinSp o sp) := by
            have := hnx.out
            rw [show (k == 0) = false by simp; omega] at this
            exact this
          go_wp2_with fail
          all_goals
            refine ⟨⟨k + 1, by omega, (by first | (simp; done) | (simp; omega)), ?_, ?_, ?_, ?_, ?_⟩, (by first | (simp [intOf]; done) | (simp [intOf]; omega))⟩
            · rw [hn2.out]
              rw [show (joinSp o sp).lo = (if sp.lo < o.lo then sp.lo else o.lo) by simp only [joinSp]; split <;> omega]
              (repeat first | with_reducible assumption | (with_reducible refine (World.cell?_alloc_lt _ _ _ ?side).trans ?_; case side => (first | omega | (simp; done) | (simp; omega))) | with_reducible refine World.cell?_setCell_same' _ _ _ ?_ | (with_reducible refine (World.cell?_setCell_other _ _ _ _ ?side).trans ?_; case side => (simp; done)) | with_reducible refine some_set ?_ | with_reducible exact some_of (by assumption))
            · rw [hn2.out]
              rw [show (joinSp o sp).hi = (if o.hi < sp.hi then sp.hi else o.hi) by simp only [joinSp]; split <;> omega]
              (repeat first | with_reducible assumption | (with_reducible refine (World.cell?_alloc_lt _ _ _ ?side).trans ?_; case side => (first | omega | (simp; done) | (simp; omega))) | with_reducible refine World.cell?_setCell_same' _ _ _ ?_ | (with_reducible refine (World.cell?_setCell_other _ _ _ _ ?side).trans ?_; case side => (simp; done)) | with_reducible refine some_set ?_ | with_reducible exact some_of (by assumption))
            · (first | (simp only [frozen?_alloc_cells, World.frozen?_setCell]; assumption) | (simp only [frozen?_alloc_cells, World.frozen?_setCell, World.frozen?_drew]; assumption))
            · (first | (simp only [frozen?_alloc_cells, World.frozen?_setCell]; assumption) | (simp only [frozen?_alloc_cells, World.frozen?_setCell, World.frozen?_drew]; assumption))
            · (repeat first | with_reducible assumption | with_reducible exact Below.refl _ _ | (with_reducible refine Below.alloc ?_ ?side _; case side => (first | omega | (with_reducible exact Below.size (by assumption)) | (simp; done) | (simp; omega))) | (with_reducible refine Below.setCell ?_ ?side _; case side => (first | omega | (with_reducible exact Below.size (by assumption)) | (simp; done) | (simp; omega))) | with_reducible refine Below.drew ?_ | with_reducible refine below_drewN ?_ _ | (with_reducible refine below_step (by assumption) ?side ?_; case side => (first | omega | (with_reducible exact Below.size (by assumption)) | (simp; done) | (simp; omega))))
    · obtain rfl : n = k := by omega
      have hltB : decide (((n : Nat) : Int) < n) = false := by simp
      have HE2 : Hid (endF np nl pl ls wrg free place = o) := by
        show _ = _
        rw [hE.out]
        first | exact ho | exact ho.out
      have tS := two_set (v0 := Value.int .i64 o.lo) (v1 := Value.int .i64 o.hi) y1
      have fin : ∀ W9, (wr.setCell ⟨w.heap.size + 1, 0, none⟩ (Value.int .i64 o.lo)).setCell ⟨w.heap.size + 1, 1, none⟩ (Value.int .i64 o.hi) = W9 → Below w.heap.size w W9 ∧ ∀ j, W9.cell? ⟨w.heap.size + 1, j, none⟩ = #[Value.int .i64 o.lo, .int .i64 o.hi][j]? := fun W9 h => by rw [← h]; exact ⟨by (repeat first | with_reducible assumption | with_reducible exact Below.refl _ _ | (with_reducible refine Below.alloc ?_ ?side _; case side => (first | omega | (with_reducible exact Below.size (by assumption)) | (simp; done) | (simp; omega))) | (with_reducible refine Below.setCell ?_ ?side _; case side => (first | omega | (with_reducible exact Below.size (by assumption)) | (simp; done) | (simp; omega))) | with_reducible refine Below.drew ?_ | with_reducible refine below_drewN ?_ _ | (with_reducible refine below_step (by assumption) ?side ?_; case side => (first | omega | (with_reducible exact Below.size (by assumption)) | (simp; done) | (simp; omega)))), tS⟩
      replace fin := Lib.hid fin
      clear tS
      go_wp2_with fail
      generalize hW9 : (wr.setCell ⟨w.heap.size + 1, 0, none⟩ (Value.int .i64 o.lo)).setCell ⟨w.heap.size + 1, 1, none⟩ (Value.int .i64 o.hi) = W9
      obtain ⟨f1, f2⟩ := fin.out W9 hW9
      exact bodyPost_ret (v := .agg #[.int .i64 o.lo, .int .i64 o.hi]) (by simp [results, Try.results57, go_sem, f2]) rfl ⟨by rw [HE2.out], f1⟩

end Go.Proofs.Ytoehifincdflhaa
