/- TopYard, the plain part: the yard of two machines; the error of a truth lies within Own. -/
import Derived.Test.YtcinhibmohkeiaaQy24
import Derived.Test.YtcinhibmohkeiaaQy26
import Derived.Test.YtcinhibmohkeiaaQy36
import Derived.Test.YtcinhibmohkeiaaQy35
import Derived.Test.YtcinhibmohkeiaaQy37
namespace Go.Proofs.Ytcinhibmohkeiaa
open Go.RowKit
open Go.Sort (grow)
set_option linter.unusedVariables false
set_option linter.unusedSimpArgs false

theorem num_bd5 {wa lk wt mi ab : Int} (hwa : 0 ≤ wa ∧ wa ≤ 9999) (hlk : 0 ≤ lk ∧ lk ≤ 20) (hw : (0 ≤ wt ∧ wt ≤ 9999) ∧ 0 ≤ mi ∧ mi ≤ 99) (hab : 1 ≤ ab ∧ ab ≤ 1000000000) : 0 ≤ pl3 wa lk wt mi * ab ∧ pl3 wa lk wt mi * ab ≤ 100000000000000 := by
  obtain ⟨-, h1, h2⟩ := pl3_bd hwa hlk hw.1 hw.2
  have h3 : pl3 wa lk wt mi * ab ≤ 19998 * 1000000000 := Int.mul_le_mul h2 hab.2 (by omega) (by omega)
  exact ⟨Int.mul_nonneg h1 (by omega), by omega⟩
/-- what Load gives where a truth is -/
theorem ldP_truth5 {nl nb : Nat} {wa l0 l1 wrg wt mi lk : Int} {lv : List Lv} {bl : List Bal} {us : List Int} (hc : ckM nl nb wa l0 l1 wrg lv bl = true) (hl : lv.length = nl) (hb : bl.length = nb) (ha : ask3 wt mi 0 = true) (ht : isT3 nl nb wa l0 l1 wrg (abK lv nl) lv bl us lk = true) :
    ∃ s0 s1 : Int, (ldP nl nb wa l0 l1 wrg lv bl wt mi).1.lo = s0 ∧ (ldP nl nb wa l0 l1 wrg lv bl wt mi).1.hi = s1 ∧ (ldP nl nb wa l0 l1 wrg lv bl wt mi).2 = 0 ∧ (0 ≤ s0 ∧ s0 ≤ s1 ∧ s1 ≤ 100000000000000) ∧ s0 * prS3 us 0 nl ≤ pl3 wa lk wt mi * abK lv nl ∧ pl3 wa lk wt mi * abK lv nl ≤ s1 * prS3 us 0 nl ∧ 1 ≤ prS3 us 0 nl := by
  obtain ⟨ok, hlg⟩ := okM_of hc hl hb
  have hw : (0 ≤ wt ∧ wt ≤ 9999) ∧ 0 ≤ mi ∧ mi ≤ 99 := by
    unfold ask3 at ha
    simp only [Bool.and_eq_true, wn_true] at ha
    omega
  obtain ⟨y, hy, -, -⟩ := isT3_tr hl hb ht
  have hne : trS lv l0 l1 wa (abK lv nl) wrg bl ≠ [] := List.ne_nil_of_mem hy
  have h1 := hull_truth (wt := wt) (mi := mi) ok ht
  have h2 := hull_sane ok hw hne
  have h3 : (hu3 wa (abK lv nl) wt mi (trS lv l0 l1 wa (abK lv nl) wrg bl) (trS lv l0 l1 wa (abK lv nl) wrg bl).length).hi ≤ 100000000000000 := by
    obtain ⟨-, x, hx, e⟩ := hu3_hit (wa := wa) (ab := abK lv nl) (wt := wt) (mi := mi) (Nat.le_refl _) (List.length_pos_iff.2 hne)
    obtain ⟨k1, k2, -⟩ := trS_mem ok hx
    have k3 := num_bd5 ok.wa k1 hw ok.ab
    rw [e]
    unfold ld3
    simp only
    generalize pl3 wa x.lk wt mi * abK lv nl = n at k3 ⊢
    have k4 : n * 1 ≤ n * x.bw := Int.mul_le_mul_of_nonneg_left k2 k3.1
    have k5 : (n + x.bw - 1) / x.bw < n + 1 := Int.ediv_lt_of_lt_mul (by omega) (by rw [Int.add_mul]; omega)
    omega
  have hop : opE nl nb wa l0 l1 wrg lv bl (ask3 wt mi 0) = 0 := by
    unfold opE
    rw [hc, ha]
    cases h : trS lv l0 l1 wa (abK lv nl) wrg bl
    · exact absurd h hne
    · rfl
  unfold ldP
  rw [hop]
  exact ⟨_, _, rfl, rfl, rfl, ⟨h2.1, h2.2, h3⟩, (Int.le_ediv_iff_mul_le (by omega)).1 h1.1, h1.2.1, h1.2.2⟩
theorem isT3_arms5 {nl nb : Nat} {wa l0 l1 wrg lk : Int} {lv : List Lv} {bl : List Bal} {us : List Int} (hc : ckM nl nb wa l0 l1 wrg lv bl = true) (hl : lv.length = nl) (hb : bl.length = nb) (ht : isT3 nl nb wa l0 l1 wrg (abK lv nl) lv bl us lk = true) :
    us.length = nl ∧ ArmsOk nl lv us ∧ (0 ≤ lk ∧ lk ≤ 20) ∧ nl ≤ 3 ∧ (0 ≤ wa ∧ wa ≤ 9999) ∧ prS3 us 0 nl ≤ 1000000000 ∧ (1 ≤ abK lv nl ∧ abK lv nl ≤ 1000000000) := by
  obtain ⟨ok, hlg⟩ := okM_of hc hl hb
  simp only [isT3, Bool.and_eq_true, beq_iff_eq, wn_true, allN_iff] at ht
  obtain ⟨h1, h2, h3, -⟩ := ht
  have hk := ok.lk
  have hn : nl ≤ 3 := by
    simp only [ckM, Bool.and_eq_true, Bool.not_eq_true', decide_eq_false_iff_not] at hc
    omega
  have har : ArmsOk nl lv us := fun k hk => ⟨⟨hlg k (by omega), (ok.lv k hk).1, (ok.lv k hk).2.2⟩, h3 k hk⟩
  have hp := (prS3_bd (lv := lv) (us := us) (n := nl) (fun k hk => ⟨⟨(har k hk).1.2.1, (har k hk).1.2.2⟩, (har k hk).2⟩) nl (Nat.le_refl _)).2
  exact ⟨h1, har, by omega, hn, ok.wa, Int.le_trans hp (pow3_bd hn (Nat.le_refl _)), ok.ab⟩
/-- the error of a truth lies within Own -/
theorem err_own {s0 s1 num den nom : Int} (hd : 1 ≤ den) (hn : 1 ≤ nom) (h0 : s0 * den ≤ num) (h1 : num ≤ s1 * den) :
    (s0 - nom) * 1000 / nom ≤ (num - nom * den) * 1000 / (nom * den) ∧ (num - nom * den) * 1000 / (nom * den) ≤ -((nom - s1) * 1000 / nom) := by
  have hp : 0 < nom * den := Int.mul_pos (by omega) (by omega)
  have hn0 : 0 < nom := by omega
  constructor
  · rw [Int.le_ediv_iff_mul_le hp]
    obtain ⟨q, hq⟩ : ∃ q, (s0 - nom) * 1000 / nom = q := ⟨_, rfl⟩
    have h2 : q * nom ≤ (s0 - nom) * 1000 := (Int.le_ediv_iff_mul_le hn0).1 (by omega)
    rw [hq]
    have h3 : q * nom * den ≤ (s0 - nom) * 1000 * den := Int.mul_le_mul_of_nonneg_right h2 (by omega)
    have h4 : (s0 - nom) * 1000 * den = (s0 * den - nom * den) * 1000 := by
      rw [Int.mul_right_comm, Int.sub_mul]
    rw [← Int.mul_assoc]
    omega
  · obtain ⟨a, ha⟩ : ∃ a, (num - nom * den) * 1000 / (nom * den) = a := ⟨_, rfl⟩
    obtain ⟨q, hq⟩ : ∃ q, (nom - s1) * 1000 / nom = q := ⟨_, rfl⟩
    rw [ha, hq]
    have h2 : a * (nom * den) ≤ (num - nom * den) * 1000 := (Int.le_ediv_iff_mul_le hp).1 (by omega)
    have h3 : q * nom ≤ (nom - s1) * 1000 := (Int.le_ediv_iff_mul_le hn0).1 (by omega)
    have h5 : q * nom * den ≤ (nom - s1) * 1000 * den := Int.mul_le_mul_of_nonneg_right h3 (by omega)
    have h6 : (nom - s1) * 1000 * den = (nom * den - s1 * den) * 1000 := by
      rw [Int.mul_right_comm, Int.sub_mul]
    have h7 : (a + q) * (nom * den) ≤ 0 := by
      rw [Int.add_mul, ← Int.mul_assoc q]
      omega
    have h8 : a + q ≤ 0 := by
      refine Int.not_lt.1 fun h => ?_
      have := Int.mul_pos h hp
      omega
    omega
section
variable {s0 s1 t0 t1 a b : Int}
def yMs (s0 s1 t0 t1 : Int) : List Sp := [⟨s0, s1⟩, ⟨t0, t1⟩]
def yCs (x : Int) : List Cm5 := [⟨0, 1, x, x⟩]
variable (hs : -60 ≤ s0 ∧ s1 ≤ 60) (ht : -60 ≤ t0 ∧ t1 ≤ 60) (ha : s0 ≤ a ∧ a ≤ s1) (hb : t0 ≤ b ∧ b ≤ t1)
include hs ht ha hb
theorem y_ck : ckY 2 1 (yMs s0 s1 t0 t1) (yCs (a - b)) 0 = true := by
  simp only [ckY, Bool.and_eq_true, allN_iff, Bool.not_eq_true', decide_eq_false_iff_not, wn_true]
  refine ⟨by omega, ?_, by omega, ?_, by omega⟩
  · intro k hk
    have : k = 0 ∨ k = 1 := by omega
    rcases this with rfl | rfl <;> simp [spAt, yMs, ckS5, wn] <;> omega
  · intro k hk
    obtain rfl : k = 0 := by omega
    simp [cmAt, yCs, ckC5, wn]
    omega
/-- the errors as potentials -/
def yX (a b : Int) (p : Nat) : Int := if p = 0 then a else if p = 1 then b else 0
theorem y_x : ∀ p, p ≤ 2 → -1000 ≤ yX a b p ∧ yX a b p ≤ 1000 := fun p hp => by
  unfold yX
  split
  · omega
  · split <;> omega
omit hs ht ha hb in
theorem y_ok {r : Nat → Bool} : EdOk 2 (eds5 (yMs s0 s1 t0 t1) (yCs (a - b)) r) := edOk_eds (ms := yMs s0 s1 t0 t1) (fun i hi => by
  obtain rfl : i = 0 := by simp [yCs] at hi; omega
  simp [cmAt, yCs, yMs])
omit hs ht in
theorem y_sat {r : Nat → Bool} : Sat5 2 (yX a b) (eds5 (yMs s0 s1 t0 t1) (yCs (a - b)) r) := sat_eds (ms := yMs s0 s1 t0 t1) rfl (fun i hi => by
  have : i = 0 ∨ i = 1 := by simp [yMs] at hi; omega
  rcases this with rfl | rfl
  · simp [spAt, yMs, yX]; omega
  · simp [spAt, yMs, yX]; omega) (fun i hi _ => by
  obtain rfl : i = 0 := by simp [yCs] at hi; omega
  exact ⟨0, 1, rfl, rfl, by simp [cmAt, yCs, yX], by simp [cmAt, yCs, yX]⟩)
theorem y_cl : clB 2 (trT 2 (yMs s0 s1 t0 t1) (yCs (a - b)) 0) = true := clB_true (by omega) (y_x hs ht ha hb) y_ok (y_sat ha hb)
theorem y_tr : trsY 2 1 (yMs s0 s1 t0 t1) (yCs (a - b)) 0 = [0] := by
  unfold trsY
  rw [show setsL 1 (min 0 ((1 : Nat) : Int)) = [0] by decide]
  simp [y_cl hs ht ha hb]
theorem y_at (p q : Nat) (hp : p ≤ 2) (hq : q ≤ 2) : yX a b q - yX a b p ≤ iAt (trT 2 (yMs s0 s1 t0 t1) (yCs (a - b)) 0) (p * 6 + q) ∧ iAt (trT 2 (yMs s0 s1 t0 t1) (yCs (a - b)) 0) (p * 6 + q) ≤ far5 :=
  (pot_clT (by omega) (y_x hs ht ha hb) y_ok (y_sat ha hb)).at_ p q hp hq
theorem y_df (p q : Nat) (hp : p ≤ 2) (hq : q ≤ 2) : dfR (trT 2 (yMs s0 s1 t0 t1) (yCs (a - b))) p q (trsY 2 1 (yMs s0 s1 t0 t1) (yCs (a - b)) 0) = ⟨-(iAt (trT 2 (yMs s0 s1 t0 t1) (yCs (a - b)) 0) (p * 6 + q)), iAt (trT 2 (yMs s0 s1 t0 t1) (yCs (a - b)) 0) (q * 6 + p)⟩ := by
  rw [y_tr hs ht ha hb]
  have h1 := y_at hs ht ha hb p q hp hq
  have h2 := y_x hs ht ha hb p hp
  have h3 := y_x hs ht ha hb q hq
  unfold far5 at h1
  show (⟨IntKind.i64.wrap _, _⟩ : Sp) = _
  rw [IntWalk.i64_in _ (by omega)]
theorem y_e0 : (dfR (trT 2 (yMs s0 s1 t0 t1) (yCs (a - b))) 0 2 (trsY 2 1 (yMs s0 s1 t0 t1) (yCs (a - b)) 0)).lo ≤ a ∧ a ≤ (dfR (trT 2 (yMs s0 s1 t0 t1) (yCs (a - b))) 0 2 (trsY 2 1 (yMs s0 s1 t0 t1) (yCs (a - b)) 0)).hi := by
  rw [y_df hs ht ha hb 0 2 (by omega) (by omega)]
  have h1 := (y_at hs ht ha hb 0 2 (by omega) (by omega)).1
  have h2 := (y_at hs ht ha hb 2 0 (by omega) (by omega)).1
  simp only [yX] at h1 h2
  simp only [Nat.reduceMul, Nat.reduceAdd] at h1 h2 ⊢
  simp at h1 h2
  omega
theorem y_e1 : (dfR (trT 2 (yMs s0 s1 t0 t1) (yCs (a - b))) 1 2 (trsY 2 1 (yMs s0 s1 t0 t1) (yCs (a - b)) 0)).lo ≤ b ∧ b ≤ (dfR (trT 2 (yMs s0 s1 t0 t1) (yCs (a - b))) 1 2 (trsY 2 1 (yMs s0 s1 t0 t1) (yCs (a - b)) 0)).hi := by
  rw [y_df hs ht ha hb 1 2 (by omega) (by omega)]
  have h1 := (y_at hs ht ha hb 1 2 (by omega) (by omega)).1
  have h2 := (y_at hs ht ha hb 2 1 (by omega) (by omega)).1
  simp only [yX] at h1 h2
  simp only [Nat.reduceMul, Nat.reduceAdd] at h1 h2 ⊢
  simp at h1 h2
  omega
theorem y_d : dfR (trT 2 (yMs s0 s1 t0 t1) (yCs (a - b))) 0 1 (trsY 2 1 (yMs s0 s1 t0 t1) (yCs (a - b)) 0) = ⟨a - b, a - b⟩ := by
  rw [y_df hs ht ha hb 0 1 (by omega) (by omega)]
  have h1 := (y_at hs ht ha hb 0 1 (by omega) (by omega)).1
  have h2 := (y_at hs ht ha hb 1 0 (by omega) (by omega)).1
  have h3 := clT_edge (m := 2) (by omega) (y_ok (s0 := s0) (s1 := s1) (t0 := t0) (t1 := t1) (a := a) (b := b) (r := fun k => !(0 : Nat).testBit k)) (k := 4) (show 4 < 6 by omega)
  have h4 := clT_edge (m := 2) (by omega) (y_ok (s0 := s0) (s1 := s1) (t0 := t0) (t1 := t1) (a := a) (b := b) (r := fun k => !(0 : Nat).testBit k)) (k := 5) (show 5 < 6 by omega)
  have e4 : edAt (eds5 (yMs s0 s1 t0 t1) (yCs (a - b)) fun k => !(0 : Nat).testBit k) 4 = ⟨1, 0, 0, a - b⟩ := rfl
  have e5 : edAt (eds5 (yMs s0 s1 t0 t1) (yCs (a - b)) fun k => !(0 : Nat).testBit k) 5 = ⟨0, 1, 0, -(a - b)⟩ := rfl
  rw [e4] at h3
  rw [e5] at h4
  have h5 : iAt (trT 2 (yMs s0 s1 t0 t1) (yCs (a - b)) 0) (nd5 2 1 * 6 + nd5 2 0) ≤ a - b := h3
  have h6 : iAt (trT 2 (yMs s0 s1 t0 t1) (yCs (a - b)) 0) (nd5 2 0 * 6 + nd5 2 1) ≤ -(a - b) := h4
  clear h3 h4 e4 e5
  generalize trT 2 (yMs s0 s1 t0 t1) (yCs (a - b)) 0 = T at h1 h2 h5 h6 ⊢
  rw [show nd5 2 1 * 6 + nd5 2 0 = 6 from rfl] at h5
  rw [show nd5 2 0 * 6 + nd5 2 1 = 1 from rfl] at h6
  simp only [yX, Nat.reduceMul, Nat.reduceAdd] at h1 h2 ⊢
  simp at h1 h2 ⊢
  omega
theorem y_no : ∀ i, i < 1 → ∀ s ∈ trsY 2 1 (yMs s0 s1 t0 t1) (yCs (a - b)) 0, s.testBit i = false := fun i hi s h => by
  rw [y_tr hs ht ha hb] at h
  obtain rfl : s = 0 := by simpa using h
  simp
theorem y_ne : (trsY 2 1 (yMs s0 s1 t0 t1) (yCs (a - b)) 0).isEmpty = false := by rw [y_tr hs ht ha hb]; rfl
end

end Go.Proofs.Ytcinhibmohkeiaa
