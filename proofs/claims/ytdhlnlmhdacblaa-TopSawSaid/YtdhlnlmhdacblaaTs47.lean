/- An account as a flow through a book's net (layer 11), in plain Lean; The way through a place (layer 11): the answers of the program for both books. -/
import Derived.Test.YtdhlnlmhdacblaaTs46
namespace Go.Proofs.Ytdhlnlmhdacblaa
open Go.RowKit
open Go.Sort (grow)
set_option linter.unusedVariables false
set_option linter.unusedSimpArgs false

def ch (S : Nat → Bool) (n : Nat) (x : Int) : Int := bif S n then x else 0
theorem ch_add (S : Nat → Bool) (n : Nat) (x y : Int) : ch S n (x + y) = ch S n x + ch S n y := by unfold ch; cases S n <;> simp
theorem ch_sub (S : Nat → Bool) (n : Nat) (x y : Int) : ch S n (x - y) = ch S n x - ch S n y := by unfold ch; cases S n <;> simp
theorem ch_zero (S : Nat → Bool) (n : Nat) : ch S n 0 = 0 := by unfold ch; cases S n <;> rfl
theorem gp_x (S : Nat → Bool) (f t x : Int) : gp S ⟨f, t, x, x⟩ = ch S t.toNat x - ch S f.toNat x := by
  unfold gp ch; cases S t.toNat <;> cases S f.toNat <;> simp
theorem gp_ge (S : Nat → Bool) (p : Pp) (x : Int) (h1 : p.lo ≤ x) (h2 : x ≤ p.hi) : gp S ⟨p.fr, p.to, x, x⟩ ≤ gp S p := by
  unfold gp; dsimp only; cases S p.to.toNat <;> cases S p.fr.toNat <;> simp <;> omega
theorem sumF_sub (f g : Nat → Int) (n : Nat) : sumF (fun i => f i - g i) n = sumF f n - sumF g n := by
  induction n with
  | zero => rfl
  | succ n ih => simp only [sumF, ih]; omega
theorem ch_sum (S : Nat → Bool) (m : Nat) (f : Nat → Int) (n : Nat) : ch S m (sumF f n) = sumF (fun i => ch S m (f i)) n := by
  induction n with
  | zero => exact ch_zero S m
  | succ n ih => simp only [sumF, ch_add, ih]
theorem sumF_zero (n : Nat) {f : Nat → Int} (h : ∀ i, i < n → f i = 0) : sumF f n = 0 := by
  induction n with
  | zero => rfl
  | succ n ih => simp only [sumF, ih fun i hi => h i (by omega), h n (by omega)]; rfl
theorem sumF_one {n k : Nat} {f : Nat → Int} (hk : k < n) (h : ∀ i, i < n → i ≠ k → f i = 0) : sumF f n = f k := by
  rw [sumF_but (g := fun _ => 0) hk h, sumF_zero n (fun _ _ => rfl)]; omega
/-- what one line brings to one place -/
theorem ind_one (S : Nat → Bool) (np : Nat) (t a : Int) (ht : t = -1 ∨ (0 ≤ t ∧ t < np)) (hp : np ≤ 5) :
    sumF (fun j : Nat => ch S 5 (bif t == (j : Int) then a else 0) - ch S j (bif t == (j : Int) then a else 0)) np = ch S 5 a - ch S (nodeZ t).toNat a := by
  rcases ht with rfl | ⟨h0, h1⟩
  · rw [sumF_zero np (fun j _ => by
      have : ((-1 : Int) == (j : Int)) = false := by first | (simp; done) | (simp; omega)
      rw [this]; simp [ch_zero])]
    have : (nodeZ (-1)).toNat = 5 := rfl
    rw [this]; omega
  · obtain ⟨k, rfl⟩ := Int.eq_ofNat_of_zero_le h0
    have hk : k < np := by omega
    rw [sumF_one hk (fun j _ hj => by
      have : ((k : Int) == (j : Int)) = false := by first | (simp; done) | (simp; omega)
      rw [this]; simp [ch_zero])]
    have e : (nodeZ (k : Int)).toNat = k := by unfold nodeZ; split <;> omega
    rw [e]; simp
theorem chg_sum (S : Nat → Bool) {np nl : Nat} {ls : List Ln} (hb : InBk np nl ls) (hp : np ≤ 5) (ws ss : List Int) (n : Nat) (hn : n ≤ nl) :
    sumF (fun j : Nat => ch S 5 (chgN ls ws ss (j : Int) n) - ch S j (chgN ls ws ss (j : Int) n)) np =
    sumF (fun i => (ch S 5 (iAt ws i - iAt ss i) - ch S (nodeZ (lnAt ls i).to).toNat (iAt ws i - iAt ss i)) - (ch S 5 (iAt ws i) - ch S (nodeZ (lnAt ls i).fr).toNat (iAt ws i))) n := by
  induction n with
  | zero => simp only [chgN, sumF]; exact sumF_zero np fun j _ => by simp [ch_zero]
  | succ n ih =>
    have h1 := ih (by omega)
    have a1 := ind_one S np (lnAt ls n).to (iAt ws n - iAt ss n) (hb.to n (by omega)) hp
    have a2 := ind_one S np (lnAt ls n).fr (iAt ws n) (hb.fr n (by omega)) hp
    simp only [sumF]
    rw [← h1, ← a1, ← a2, ← sumF_sub, ← sumF_add]
    refine sumF_congr fun j _ => ?_
    simp only [chgN, ch_add, ch_sub]
    omega
/-- what came in is what went out, of each set -/
theorem flow_zero (S : Nat → Bool) {np nl : Nat} {ls : List Ln} (hb : InBk np nl ls) (hp : np ≤ 5) (ws ss : List Int) :
    sumF (fun i => gp S ⟨nodeZ (lnAt ls i).fr, nodeZ (lnAt ls i).to, iAt ws i, iAt ws i⟩ + gp S ⟨nodeZ (lnAt ls i).to, 6, iAt ss i, iAt ss i⟩) nl +
      sumF (fun j : Nat => gp S ⟨(j : Int), 5, chgN ls ws ss (j : Int) nl, chgN ls ws ss (j : Int) nl⟩) np + gp S ⟨6, 5, sumF (iAt ss) nl, sumF (iAt ss) nl⟩ = 0 := by
  have h1 := chg_sum S hb hp ws ss nl (Nat.le_refl _)
  have h65 : (6 : Int).toNat = 6 ∧ (5 : Int).toNat = 5 := ⟨rfl, rfl⟩
  simp only [gp_x, h65.1, h65.2, Int.toNat_natCast, ch_sum]
  rw [h1, ← sumF_sub, ← sumF_add, ← sumF_add]
  exact sumF_zero nl fun i _ => by simp only [ch_sub]; omega
/-- the numbers of an account lie within the pipes' bounds -/
structure Within (np nl : Nat) (pl : List Sp) (ls : List Ln) (f : Nat → Bool) (ws ss : List Int) : Prop where
  w : ∀ i, i < nl → (wPp f i (lnAt ls i)).lo ≤ iAt ws i ∧ iAt ws i ≤ (wPp f i (lnAt ls i)).hi
  s : ∀ i, i < nl → (lnAt ls i).s.lo ≤ iAt ss i ∧ iAt ss i ≤ (lnAt ls i).s.hi
  c : ∀ j : Nat, j < np → (spAt pl j).lo ≤ chgN ls ws ss (j : Int) nl ∧ chgN ls ws ss (j : Int) nl ≤ (spAt pl j).hi
  t : 0 ≤ sumF (iAt ss) nl ∧ sumF (iAt ss) nl ≤ nl * 999
section
variable {np nl : Nat} {pl : List Sp} {ls : List Ln} {f : Nat → Bool} {ws ss : List Int}
theorem fix_can (hb : InBk np nl ls) (hp : np ≤ 5) (h : Within np nl pl ls f ws ss) :
    Can (flowL np nl pl ls f) ∧ (∀ i, i < nl → Can (withPp (flowL np nl pl ls f) (2 * i) (iAt ws i) (iAt ws i))) ∧
    (∀ j : Nat, j < np → Can (withPp (flowL np nl pl ls f) (2 * nl + j) (chgN ls ws ss (j : Int) nl) (chgN ls ws ss (j : Int) nl))) ∧
    Can (withPp (flowL np nl pl ls f) (2 * nl + np) (sumF (iAt ss) nl) (sumF (iAt ss) nl)) := by
  have A : ∀ S i, i < nl → gp S ⟨nodeZ (lnAt ls i).fr, nodeZ (lnAt ls i).to, iAt ws i, iAt ws i⟩ ≤ gp S (wPp f i (lnAt ls i)) := fun S i hi => gp_ge S (wPp f i (lnAt ls i)) _ (h.w i hi).1 (h.w i hi).2
  have B : ∀ S i, i < nl → gp S ⟨nodeZ (lnAt ls i).to, 6, iAt ss i, iAt ss i⟩ ≤ gp S (sPp (lnAt ls i)) := fun S i hi => gp_ge S (sPp (lnAt ls i)) _ (h.s i hi).1 (h.s i hi).2
  have C : ∀ S (j : Nat), j < np → gp S ⟨(j : Int), 5, chgN ls ws ss (j : Int) nl, chgN ls ws ss (j : Int) nl⟩ ≤ gp S (pPp j (spAt pl j)) := fun S j hj => gp_ge S (pPp j (spAt pl j)) _ (h.c j hj).1 (h.c j hj).2
  have D : ∀ S, gp S ⟨6, 5, sumF (iAt ss) nl, sumF (iAt ss) nl⟩ ≤ gp S (hPp (nl * 999)) := fun S => gp_ge S (hPp (nl * 999)) _ h.t.1 h.t.2
  have SA : ∀ S, sumF (fun i => gp S ⟨nodeZ (lnAt ls i).fr, nodeZ (lnAt ls i).to, iAt ws i, iAt ws i⟩ + gp S ⟨nodeZ (lnAt ls i).to, 6, iAt ss i, iAt ss i⟩) nl ≤ sumF (fun i => gp S (wPp f i (lnAt ls i)) + gp S (sPp (lnAt ls i))) nl :=
    fun S => sumF_le fun i hi => by have := A S i hi; have := B S i hi; omega
  have SC : ∀ S, sumF (fun j : Nat => gp S ⟨(j : Int), 5, chgN ls ws ss (j : Int) nl, chgN ls ws ss (j : Int) nl⟩) np ≤ sumF (fun i => gp S (pPp i (spAt pl i))) np := fun S => sumF_le fun j hj => C S j hj
  refine ⟨fun S => ?_, fun i hi => ?_, fun j hj => ?_, ?_⟩
  · rw [gap_flow]
    have := flow_zero S hb hp ws ss
    have := SA S
    have := SC S
    have := D S
    omega
  · rw [can_set (by rw [flow_len]; omega), pp_w hi]
    intro S
    rw [gap_flow]
    have z := flow_zero S hb hp ws ss
    have := SC S
    have := D S
    have e := sumF_but (f := fun j => if j = i then gp S ⟨nodeZ (lnAt ls i).fr, nodeZ (lnAt ls i).to, iAt ws i, iAt ws i⟩ + gp S (sPp (lnAt ls i)) else gp S (wPp f j (lnAt ls j)) + gp S (sPp (lnAt ls j))) (g := fun j => gp S (wPp f j (lnAt ls j)) + gp S (sPp (lnAt ls j))) hi (fun j _ hne => if_neg hne)
    simp only [if_true] at e
    have l : sumF (fun i => gp S ⟨nodeZ (lnAt ls i).fr, nodeZ (lnAt ls i).to, iAt ws i, iAt ws i⟩ + gp S ⟨nodeZ (lnAt ls i).to, 6, iAt ss i, iAt ss i⟩) nl ≤ sumF (fun j => if j = i then gp S ⟨nodeZ (lnAt ls i).fr, nodeZ (lnAt ls i).to, iAt ws i, iAt ws i⟩ + gp S (sPp (lnAt ls i)) else gp S (wPp f j (lnAt ls j)) + gp S (sPp (lnAt ls j))) nl :=
      sumF_le fun j hj => by
        by_cases e : j = i
        · subst e; rw [if_pos rfl]; have := B S j hj; omega
        · rw [if_neg e]; have := A S j hj; have := B S j hj; omega
    have q : gp S { wPp f i (lnAt ls i) with lo := iAt ws i, hi := iAt ws i } = gp S ⟨nodeZ (lnAt ls i).fr, nodeZ (lnAt ls i).to, iAt ws i, iAt ws i⟩ := rfl
    rw [q]
    omega
  · rw [can_set (by rw [flow_len]; omega), pp_p hj]
    intro S
    rw [gap_flow]
    have z := flow_zero S hb hp ws ss
    have := SA S
    have := D S
    have e := sumF_but (f := fun k : Nat => if k = j then gp S ⟨(j : Int), 5, chgN ls ws ss (j : Int) nl, chgN ls ws ss (j : Int) nl⟩ else gp S (pPp k (spAt pl k))) (g := fun k => gp S (pPp k (spAt pl k))) hj (fun k _ hne => if_neg hne)
    simp only [if_true] at e
    have l : sumF (fun j : Nat => gp S ⟨(j : Int), 5, chgN ls ws ss (j : Int) nl, chgN ls ws ss (j : Int) nl⟩) np ≤ sumF (fun k : Nat => if k = j then gp S ⟨(j : Int), 5, chgN ls ws ss (j : Int) nl, chgN ls ws ss (j : Int) nl⟩ else gp S (pPp k (spAt pl k))) np :=
      sumF_le fun k hk => by
        by_cases e : k = j
        · subst e; rw [if_pos rfl]; exact Int.le_refl _
        · rw [if_neg e]; exact C S k hk
    have q : gp S { pPp j (spAt pl j) with lo := chgN ls ws ss (j : Int) nl, hi := chgN ls ws ss (j : Int) nl } = gp S ⟨(j : Int), 5, chgN ls ws ss (j : Int) nl, chgN ls ws ss (j : Int) nl⟩ := rfl
    rw [q]
    omega
  · rw [can_set (by rw [flow_len]; omega), pp_h]
    intro S
    rw [gap_flow]
    have z := flow_zero S hb hp ws ss
    have := SA S
    have := SC S
    have q : gp S { hPp ((nl : Int) * 999) with lo := sumF (iAt ss) nl, hi := sumF (iAt ss) nl } = gp S ⟨6, 5, sumF (iAt ss) nl, sumF (iAt ss) nl⟩ := rfl
    rw [q]
    omega
end

end Go.Proofs.Ytdhlnlmhdacblaa

namespace Go.Proofs.Ytdhlnlmhdacblaa
open Go.RowKit
open Go.Sort (grow)
set_option linter.unusedVariables false
set_option linter.unusedSimpArgs false

theorem cnt_zero : (List.range 256).all (fun s => (s == 0) == (cnt 8 s == 0)) = true := by decide +kernel
theorem cnt0 {s : Nat} (h : s < 256) (h0 : s ≠ 0) : ((cnt 8 s : Int) == 0) = false := by
  have := List.all_eq_true.1 cnt_zero s (by simpa using h)
  have e : (s == 0) = false := by simpa using h0
  rw [e] at this
  simp at this ⊢
  omega
theorem sets0 {np nl : Nat} {pl : List Sp} {ls : List Ln} (hl : nl ≤ 8) : truthSets np nl pl ls 0 = bif canL (2 * nl + np + 1) (fA np nl pl ls) then [0] else [] := by
  have hm : min (0 : Int) (nl : Int) = 0 := by omega
  obtain ⟨M, hM⟩ : ∃ M, 2 ^ nl = M + 1 := ⟨2 ^ nl - 1, by have := Nat.two_pow_pos nl; omega⟩
  have hMle : M + 1 ≤ 256 := by
    have : 2 ^ nl ≤ 2 ^ 8 := Nat.pow_le_pow_right (by omega) hl
    omega
  unfold truthSets netSets
  rw [hm, hM, List.range_succ_eq_map, List.filter_cons]
  have h1 : (List.map Nat.succ (List.range M)).filter (sel np nl pl ls 0) = [] := by
    rw [List.filter_eq_nil_iff]
    intro s hs
    obtain ⟨j, hj, rfl⟩ := List.mem_map.1 hs
    have hj' : j < M := by simpa using hj
    rw [sel, cnt0 (by omega) (by omega)]
    simp
  have h2 : sel np nl pl ls 0 0 = canL (2 * nl + np + 1) (fA np nl pl ls) := by
    rw [sel, zero_bits]
    have : ((cnt 8 0 : Int) == 0) = true := by decide
    rw [this, Bool.true_and]; rfl
  rw [h1, h2]
  cases canL (2 * nl + np + 1) (fA np nl pl ls) <;> rfl
theorem ckBk_0 {np nl : Nat} {pl : List Sp} {ls : List Ln} {wr : Int} (h : ckBk np nl pl ls wr = true) : ckBk np nl pl ls 0 = true := by
  unfold ckBk at h ⊢
  simp only [Bool.and_eq_true, Bool.not_eq_true', Bool.or_eq_false_iff, Bool.not_eq_false'] at h ⊢
  exact ⟨⟨h.1.1, by decide⟩, h.2⟩
theorem canL_A {np nl : Nat} {pl : List Sp} {ls : List Ln} (h : OkBk np nl pl ls) : canL (2 * nl + np + 1) (fA np nl pl ls) = true ↔ Can (fA np nl pl ls) := by
  have := canL_iff (l := fA np nl pl ls) (flow_nodes h)
  rwa [len_A] at this
theorem endsB0 {np nl : Nat} {pl : List Sp} {ls : List Ln} (hl : nl ≤ 8) (h : canL (2 * nl + np + 1) (fA np nl pl ls) = true) (i : Nat) : endsB np nl pl ls 0 i = endsP (2 * nl + np + 1) (fA np nl pl ls) i := by
  rw [endsB, sets0 hl, h]
  show hull [endsS np nl pl ls i 0] = _
  rw [hull_one, endsS, zero_bits]; rfl
theorem askZ0 {np nl : Nat} {pl : List Sp} {ls : List Ln} (hl : nl ≤ 8) (hck : ckBk np nl pl ls 0 = true) : askZ np nl pl ls 0 true = bif canL (2 * nl + np + 1) (fA np nl pl ls) then 0 else 3 := by
  rw [askZ, hck, sets0 hl]
  cases canL (2 * nl + np + 1) (fA np nl pl ls) <;> rfl
theorem fO_eq {np nl k : Nat} {pl : List Sp} {ls : List Ln} : fO np nl k pl ls = fA (np + 1) (nl + 1) (oPl pl) (oLs np ls k) := rfl
theorem thru_ans {np nl k : Nat} {pl : List Sp} {ls : List Ln} (hp : np < 5) (hn : nl + 1 ≤ 8) (hk : k < nl) (lp : pl.length = np) (ll : ls.length = nl) (hck : ckBk np nl pl ls 0 = true) (hckO : ckBk (np + 1) (nl + 1) (oPl pl) (oLs np ls k) 0 = true) :
    isKn_q11 (askZ np nl pl ls 0 true) = true ∧ askZ (np + 1) (nl + 1) (oPl pl) (oLs np ls k) 0 true = askZ np nl pl ls 0 true ∧
    (askZ np nl pl ls 0 true = 0 → (∀ i, i < nl → endsB (np + 1) (nl + 1) (oPl pl) (oLs np ls k) 0 (2 * i) = endsB np nl pl ls 0 (2 * i)) ∧
      endsB (np + 1) (nl + 1) (oPl pl) (oLs np ls k) 0 (2 * nl) = endsB np nl pl ls 0 (2 * k) ∧ endsB (np + 1) (nl + 1) (oPl pl) (oLs np ls k) 0 (2 * (nl + 1) + (np + 1)) = endsB np nl pl ls 0 (2 * nl + np)) := by
  have ok := (okBk_of lp ll hck).1
  have okO := (okBk_of (pl := oPl pl) (ls := oLs np ls k) (by simp [oPl, lp]) (by simp [oLs, ll]) hckO).1
  have t : ThruOk np nl k pl ls := ⟨ok, inBk_of hck, okO, hp, hk, lp, ll⟩
  have hc := can_O t
  rw [fO_eq] at hc
  have hcl : canL (2 * (nl + 1) + (np + 1) + 1) (fA (np + 1) (nl + 1) (oPl pl) (oLs np ls k)) = canL (2 * nl + np + 1) (fA np nl pl ls) := by
    rw [Bool.eq_iff_iff, canL_A okO, canL_A ok, hc]
  rw [askZ0 (by omega) hck, askZ0 (by omega) hckO, hcl]
  refine ⟨by cases canL (2 * nl + np + 1) (fA np nl pl ls) <;> rfl, rfl, fun h0 => ?_⟩
  have h1 : canL (2 * nl + np + 1) (fA np nl pl ls) = true := by
    cases e : canL (2 * nl + np + 1) (fA np nl pl ls)
    · rw [e] at h0; cases h0
    · rfl
  have h2 : canL (2 * (nl + 1) + (np + 1) + 1) (fA (np + 1) (nl + 1) (oPl pl) (oLs np ls k)) = true := by rw [hcl, h1]
  obtain ⟨e1, e2, e3⟩ := ends_k t ((canL_A ok).1 h1)
  rw [fO_eq] at e1 e2 e3
  refine ⟨fun i hi => ?_, ?_, ?_⟩
  · rw [endsB0 (by omega) h1, endsB0 (by omega) h2]; exact e1 i hi
  · rw [endsB0 (by omega) h1, endsB0 (by omega) h2]; exact e2
  · rw [endsB0 (by omega) h1, endsB0 (by omega) h2]; exact e3

def vSp (lo hi e : Int) : Value := .tuple #[.agg #[.int .i64 lo, .int .i64 hi], .int .i64 e]
theorem isNo_nat {i n : Nat} (h : i < n) : isNo (i : Int) n = true := by simp [isNo, wi_q11]; omega
theorem thru_vals {np nl k : Nat} {pl : List Sp} {ls : List Ln} (hp : np < 5) (hn : nl + 1 ≤ 8) (hk : k < nl) (lp : pl.length = np) (ll : ls.length = nl) (hck : ckBk np nl pl ls 0 = true) (hckO : ckBk (np + 1) (nl + 1) (oPl pl) (oLs np ls k) 0 = true) :
    ∃ z, isKn_q11 z = true ∧ (∃ a b, ansS (askZ np nl pl ls 0 true) (endsB np nl pl ls 0 (2 * nl + np)) = vSp a b z ∧ ansS (askZ (np + 1) (nl + 1) (oPl pl) (oLs np ls k) 0 true) (endsB (np + 1) (nl + 1) (oPl pl) (oLs np ls k) 0 (2 * (nl + 1) + (np + 1))) = vSp a b z) ∧
      (∀ i : Nat, i < nl → ∃ a b, ansS (askZ np nl pl ls 0 (isNo (i : Int) nl)) (endsB np nl pl ls 0 (2 * (i : Int).toNat)) = vSp a b z ∧ ansS (askZ (np + 1) (nl + 1) (oPl pl) (oLs np ls k) 0 (isNo (i : Int) (nl + 1))) (endsB (np + 1) (nl + 1) (oPl pl) (oLs np ls k) 0 (2 * (i : Int).toNat)) = vSp a b z) ∧
      (∃ a b, ansS (askZ np nl pl ls 0 (isNo (k : Int) nl)) (endsB np nl pl ls 0 (2 * (k : Int).toNat)) = vSp a b z ∧ ansS (askZ (np + 1) (nl + 1) (oPl pl) (oLs np ls k) 0 (isNo (nl : Int) (nl + 1))) (endsB (np + 1) (nl + 1) (oPl pl) (oLs np ls k) 0 (2 * (nl : Int).toNat)) = vSp a b z) := by
  obtain ⟨h1, h2, h3⟩ := thru_ans hp hn hk lp ll hck hckO
  have key : ∀ (s t : Sp), (askZ np nl pl ls 0 true = 0 → t = s) → ∃ a b, ansS (askZ np nl pl ls 0 true) s = vSp a b (askZ np nl pl ls 0 true) ∧ ansS (askZ (np + 1) (nl + 1) (oPl pl) (oLs np ls k) 0 true) t = vSp a b (askZ np nl pl ls 0 true) := by
    intro s t hst
    rw [h2]
    by_cases h0 : askZ np nl pl ls 0 true = 0
    · rw [hst h0, h0]; exact ⟨s.lo, s.hi, rfl, rfl⟩
    · have hb : (askZ np nl pl ls 0 true == 0) = false := by simpa using h0
      simp only [ansS, hb]
      exact ⟨0, 0, rfl, rfl⟩
  refine ⟨askZ np nl pl ls 0 true, h1, key _ _ (fun h0 => (h3 h0).2.2), fun i hi => ?_, ?_⟩
  · rw [isNo_nat hi, isNo_nat (by omega : i < nl + 1)]
    exact key _ _ (fun h0 => (h3 h0).1 i hi)
  · rw [isNo_nat hk, isNo_nat (by omega : nl < nl + 1)]
    exact key _ _ (fun h0 => (h3 h0).2.1)

end Go.Proofs.Ytdhlnlmhdacblaa
