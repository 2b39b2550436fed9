/- The way through a place (layer 11): the answers of the program for both books. -/
import Derived.Test.YtoehifincdflhaaTj11
namespace Go.Proofs.Ytoehifincdflhaa
open Go.RowKit
open Go.Sort (grow)
set_option linter.unusedVariables false

theorem cnt_zero : (List.range 256).all (fun s => (s == 0) == (cnt 8 s == 0)) = true := by decide +kernel
theorem cnt0 {s : Nat} (h : s < 256) (h0 : s ≠ 0) : ((cnt 8 s : Int) == 0) = false := by
  have := List.all_eq_true.1 cnt_zero s (by simpa using h)
  have e : (s == 0) = false := by simpa using h0
  rw [e] at this
  simp at this ⊢
  omega
theorem sets0 {np nl : Nat} {pl : List Sp} {ls : List Ln} (hl : nl ≤ 8) : truthSets np nl pl ls 0 = bif canL (2 * nl + np + 1) (fA np nl pl ls) then [0] else [] := by
  have hm : min (0 : Int) (nl : Int) = 0 := by omega
  obtain ⟨M, hM⟩ : ∃ M, 2 ^ nl = M + 1 := ⟨2 ^ nl - 1, by have := Nat.two_pow_pos nl; omega⟩
  have hMle : M + 1 ≤ 256 := by
    have : 2 ^ nl ≤ 2 ^ 8 := Nat.pow_le_pow_right (by omega) hl
    omega
  unfold truthSets netSets
  rw [hm, hM, List.range_succ_eq_map, List.filter_cons]
  have h1 : (List.map Nat.succ (List.range M)).filter (sel np nl pl ls 0) = [] := by
    rw [List.filter_eq_nil_iff]
    intro s hs
    obtain ⟨j, hj, rfl⟩ := List.mem_map.1 hs
    have hj' : j < M := by simpa using hj
    rw [sel, cnt0 (by omega) (by omega)]
    simp
  have h2 : sel np nl pl ls 0 0 = canL (2 * nl + np + 1) (fA np nl pl ls) := by
    rw [sel, zero_bits]
    have : ((cnt 8 0 : Int) == 0) = true := by decide
    rw [this, Bool.true_and]; rfl
  rw [h1, h2]
  cases canL (2 * nl + np + 1) (fA np nl pl ls) <;> rfl
theorem ckBk_0 {np nl : Nat} {pl : List Sp} {ls : List Ln} {wr : Int} (h : ckBk np nl pl ls wr = true) : ckBk np nl pl ls 0 = true := by
  unfold ckBk at h ⊢
  simp only [Bool.and_eq_true, Bool.not_eq_true', Bool.or_eq_false_iff, Bool.not_eq_false'] at h ⊢
  exact ⟨⟨h.1.1, by decide⟩, h.2⟩
theorem canL_A {np nl : Nat} {pl : List Sp} {ls : List Ln} (h : OkBk np nl pl ls) : canL (2 * nl + np + 1) (fA np nl pl ls) = true ↔ Can (fA np nl pl ls) := by
  have := canL_iff (l := fA np nl pl ls) (flow_nodes h)
  rwa [len_A] at this
theorem endsB0 {np nl : Nat} {pl : List Sp} {ls : List Ln} (hl : nl ≤ 8) (h : canL (2 * nl + np + 1) (fA np nl pl ls) = true) (i : Nat) : endsB np nl pl ls 0 i = endsP (2 * nl + np + 1) (fA np nl pl ls) i := by
  rw [endsB, sets0 hl, h]
  show hull [endsS np nl pl ls i 0] = _
  rw [hull_one, endsS, zero_bits]; rfl
theorem askZ0 {np nl : Nat} {pl : List Sp} {ls : List Ln} (hl : nl ≤ 8) (hck : ckBk np nl pl ls 0 = true) : askZ np nl pl ls 0 true = bif canL (2 * nl + np + 1) (fA np nl pl ls) then 0 else 3 := by
  rw [askZ, hck, sets0 hl]
  cases canL (2 * nl + np + 1) (fA np nl pl ls) <;> rfl
theorem fO_eq {np nl k : Nat} {pl : List Sp} {ls : List Ln} : fO np nl k pl ls = fA (np + 1) (nl + 1) (oPl pl) (oLs np ls k) := rfl
theorem thru_ans {np nl k : Nat} {pl : List Sp} {ls : List Ln} (hp : np < 5) (hn : nl + 1 ≤ 8) (hk : k < nl) (lp : pl.length = np) (ll : ls.length = nl) (hck : ckBk np nl pl ls 0 = true) (hckO : ckBk (np + 1) (nl + 1) (oPl pl) (oLs np ls k) 0 = true) :
    isKn (askZ np nl pl ls 0 true) = true ∧ askZ (np + 1) (nl + 1) (oPl pl) (oLs np ls k) 0 true = askZ np nl pl ls 0 true ∧
    (askZ np nl pl ls 0 true = 0 → (∀ i, i < nl → endsB (np + 1) (nl + 1) (oPl pl) (oLs np ls k) 0 (2 * i) = endsB np nl pl ls 0 (2 * i)) ∧
      endsB (np + 1) (nl + 1) (oPl pl) (oLs np ls k) 0 (2 * nl) = endsB np nl pl ls 0 (2 * k) ∧ endsB (np + 1) (nl + 1) (oPl pl) (oLs np ls k) 0 (2 * (nl + 1) + (np + 1)) = endsB np nl pl ls 0 (2 * nl + np)) := by
  have ok := (okBk_of lp ll hck).1
  have okO := (okBk_of (pl := oPl pl) (ls := oLs np ls k) (by simp [oPl, lp]) (by simp [oLs, ll]) hckO).1
  have t : ThruOk np nl k pl ls := ⟨ok, inBk_of hck, okO, hp, hk, lp, ll⟩
  have hc := can_O t
  rw [fO_eq] at hc
  have hcl : canL (2 * (nl + 1) + (np + 1) + 1) (fA (np + 1) (nl + 1) (oPl pl) (oLs np ls k)) = canL (2 * nl + np + 1) (fA np nl pl ls) := by
    rw [Bool.eq_iff_iff, canL_A okO, canL_A ok, hc]
  rw [askZ0 (by omega) hck, askZ0 (by omega) hckO, hcl]
  refine ⟨by cases canL (2 * nl + np + 1) (fA np nl pl ls) <;> rfl, rfl, fun h0 => ?_⟩
  have h1 : canL (2 * nl + np + 1) (fA np nl pl ls) = true := by
    cases e : canL (2 * nl + np + 1) (fA np nl pl ls)
    · rw [e] at h0; cases h0
    · rfl
  have h2 : canL (2 * (nl + 1) + (np + 1) + 1) (fA (np + 1) (nl + 1) (oPl pl) (oLs np ls k)) = true := by rw [hcl, h1]
  obtain ⟨e1, e2, e3⟩ := ends_k t ((canL_A ok).1 h1)
  rw [fO_eq] at e1 e2 e3
  refine ⟨fun i hi => ?_, ?_, ?_⟩
  · rw [endsB0 (by omega) h1, endsB0 (by omega) h2]; exact e1 i hi
  · rw [endsB0 (by omega) h1, endsB0 (by omega) h2]; exact e2
  · rw [endsB0 (by omega) h1, endsB0 (by omega) h2]; exact e3

def vSp (lo hi e : Int) : Value := .tuple #[.agg #[.int .i64 lo, .int .i64 hi], .int .i64 e]
theorem isNo_nat {i n : Nat} (h : i < n) : isNo (i : Int) n = true := by simp [isNo, wi]; omega
theorem thru_vals {np nl k : Nat} {pl : List Sp} {ls : List Ln} (hp : np < 5) (hn : nl + 1 ≤ 8) (hk : k < nl) (lp : pl.length = np) (ll : ls.length = nl) (hck : ckBk np nl pl ls 0 = true) (hckO : ckBk (np + 1) (nl + 1) (oPl pl) (oLs np ls k) 0 = true) :
    ∃ z, isKn z = true ∧ (∃ a b, ansS (askZ np nl pl ls 0 true) (endsB np nl pl ls 0 (2 * nl + np)) = vSp a b z ∧ ansS (askZ (np + 1) (nl + 1) (oPl pl) (oLs np ls k) 0 true) (endsB (np + 1) (nl + 1) (oPl pl) (oLs np ls k) 0 (2 * (nl + 1) + (np + 1))) = vSp a b z) ∧
      (∀ i : Nat, i < nl → ∃ a b, ansS (askZ np nl pl ls 0 (isNo (i : Int) nl)) (endsB np nl pl ls 0 (2 * (i : Int).toNat)) = vSp a b z ∧ ansS (askZ (np + 1) (nl + 1) (oPl pl) (oLs np ls k) 0 (isNo (i : Int) (nl + 1))) (endsB (np + 1) (nl + 1) (oPl pl) (oLs np ls k) 0 (2 * (i : Int).toNat)) = vSp a b z) ∧
      (∃ a b, ansS (askZ np nl pl ls 0 (isNo (k : Int) nl)) (endsB np nl pl ls 0 (2 * (k : Int).toNat)) = vSp a b z ∧ ansS (askZ (np + 1) (nl + 1) (oPl pl) (oLs np ls k) 0 (isNo (nl : Int) (nl + 1))) (endsB (np + 1) (nl + 1) (oPl pl) (oLs np ls k) 0 (2 * (nl : Int).toNat)) = vSp a b z) := by
  obtain ⟨h1, h2, h3⟩ := thru_ans hp hn hk lp ll hck hckO
  have key : ∀ (s t : Sp), (askZ np nl pl ls 0 true = 0 → t = s) → ∃ a b, ansS (askZ np nl pl ls 0 true) s = vSp a b (askZ np nl pl ls 0 true) ∧ ansS (askZ (np + 1) (nl + 1) (oPl pl) (oLs np ls k) 0 true) t = vSp a b (askZ np nl pl ls 0 true) := by
    intro s t hst
    rw [h2]
    by_cases h0 : askZ np nl pl ls 0 true = 0
    · rw [hst h0, h0]; exact ⟨s.lo, s.hi, rfl, rfl⟩
    · have hb : (askZ np nl pl ls 0 true == 0) = false := by simpa using h0
      simp only [ansS, hb]
      exact ⟨0, 0, rfl, rfl⟩
  refine ⟨askZ np nl pl ls 0 true, h1, key _ _ (fun h0 => (h3 h0).2.2), fun i hi => ?_, ?_⟩
  · rw [isNo_nat hi, isNo_nat (by omega : i < nl + 1)]
    exact key _ _ (fun h0 => (h3 h0).1 i hi)
  · rw [isNo_nat hk, isNo_nat (by omega : nl < nl + 1)]
    exact key _ _ (fun h0 => (h3 h0).2.1)

end Go.Proofs.Ytoehifincdflhaa
