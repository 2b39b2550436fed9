/- What holds of each truth of a book (layer 11), in plain Lean; A book without wrong lines (layer 11), in plain terms: its answers are those of one net; the ledger of the saw; The ledger of the links of a cable (layers 2 and 11), in plain terms. -/
import Derived.Test.YtdhlnlmhdacblaaTl19
import Derived.Test.YtdhlnlmhdacblaaTl20
namespace Go.Proofs.Ytdhlnlmhdacblaa
open Go.RowKit
open Go.Sort (grow)
set_option linter.unusedVariables false
set_option linter.unusedSimpArgs false

def ofB : Nat → (Nat → Bool) → Nat
  | 0, _ => 0
  | n + 1, f => ofB n f + (bif f n then 2 ^ n else 0)
theorem ofB_lt (n : Nat) (f : Nat → Bool) : ofB n f < 2 ^ n := by
  induction n with
  | zero => simp [ofB]
  | succ n ih => simp only [ofB, Nat.pow_succ]; cases f n <;> simp <;> omega
theorem ofB_bit (n : Nat) (f : Nat → Bool) (i : Nat) : (ofB n f).testBit i = (decide (i < n) && f i) := by
  induction n with
  | zero => simp [ofB]
  | succ n ih =>
    have hlt := ofB_lt n f
    simp only [ofB]
    cases hf : f n
    · simp only [cond_false, Nat.add_zero, ih]
      by_cases e : i = n
      · subst e; simp [hf]
      · have : decide (i < n) = decide (i < n + 1) := by rw [decide_eq_decide]; omega
        rw [this]
    · simp only [cond_true]
      rcases Nat.lt_trichotomy i n with h | h | h
      · rw [Nat.add_comm, Nat.testBit_two_pow_add_gt h, ih]
        simp [h]; omega
      · subst h
        rw [Nat.add_comm, Nat.testBit_two_pow_add_eq, ih]
        simp [hf]
      · rw [Nat.testBit_lt_two_pow (by
          have : 2 ^ (n + 1) ≤ 2 ^ i := Nat.pow_le_pow_right (by omega) (by omega)
          rw [Nat.pow_succ] at this
          omega)]
        have : decide (i < n + 1) = false := by simp; omega
        rw [this]; rfl
def cntF (n : Nat) (f : Nat → Bool) : Nat := ((List.range n).filter f).length
theorem cntF_succ (n : Nat) (f : Nat → Bool) : cntF (n + 1) f = cntF n f + (f n).toNat := by
  unfold cntF
  rw [List.range_succ, List.filter_append, List.length_append]
  cases h : f n <;> simp [h]
theorem cntF_le (n : Nat) (f : Nat → Bool) : cntF n f ≤ n := by
  have := List.length_filter_le f (List.range n)
  simpa [cntF] using this
theorem cntF_congr {n : Nat} {f g : Nat → Bool} (h : ∀ i, i < n → f i = g i) : cntF n f = cntF n g := by
  induction n with
  | zero => rfl
  | succ n ih => rw [cntF_succ, cntF_succ, ih fun i hi => h i (by omega), h n (by omega)]
theorem cntF_mono {n : Nat} {f g : Nat → Bool} (h : ∀ i, i < n → f i = true → g i = true) : cntF n f ≤ cntF n g := by
  induction n with
  | zero => exact Nat.le_refl _
  | succ n ih =>
    have h1 := ih fun i hi => h i (by omega)
    have h2 := h n (by omega)
    rw [cntF_succ, cntF_succ]
    cases e : f n
    · simp; omega
    · rw [h2 e]; simp; omega
theorem cnt8 {n s : Nat} (hn : n ≤ 8) (hs : s < 2 ^ n) : cnt 8 s = cntF n s.testBit := by
  have key : ∀ k, n ≤ k → cntF k s.testBit = cntF n s.testBit := by
    intro k hk
    induction k with
    | zero => have : n = 0 := by omega
              subst this; rfl
    | succ k ih =>
      by_cases e : n = k + 1
      · subst e; rfl
      · rw [cntF_succ, ih (by omega)]
        have : s.testBit k = false := Nat.testBit_lt_two_pow (Nat.lt_of_lt_of_le hs (Nat.pow_le_pow_right (by omega) (by omega)))
        rw [this]; rfl
  exact key 8 hn
/-- a set of so many that holds a set of fewer -/
theorem more_set (n : Nat) : ∀ (f : Nat → Bool) (m : Nat), cntF n f ≤ m → m ≤ n → ∃ g : Nat → Bool, (∀ i, i < n → f i = true → g i = true) ∧ cntF n g = m := by
  induction n with
  | zero => intro f m _ h2; exact ⟨f, fun i hi => by omega, by have := cntF_le 0 f; omega⟩
  | succ n ih =>
    intro f m h1 h2
    rw [cntF_succ] at h1
    have hle := cntF_le n f
    have step : ∀ (b : Bool) (m' : Nat), (f n = true → b = true) → cntF n f ≤ m' → m' ≤ n → m' + b.toNat = m → ∃ g : Nat → Bool, (∀ i, i < n + 1 → f i = true → g i = true) ∧ cntF (n + 1) g = m := by
      intro b m' hb hc hm e
      obtain ⟨g, g1, g2⟩ := ih f m' hc hm
      refine ⟨fun i => if i = n then b else g i, fun i hi hf => ?_, ?_⟩
      · by_cases e' : i = n
        · subst e'; simp [hb hf]
        · simp only [if_neg e']; exact g1 i (by omega) hf
      · rw [cntF_succ, if_pos rfl, cntF_congr (g := g) (fun i hi => by simp only [if_neg (show ¬ i = n by omega)]), g2, e]
    cases hf : f n
    · rw [hf] at h1
      by_cases hm : m ≤ n
      · exact step false m (by simp [hf]) (by simpa using h1) hm (by simp)
      · exact step true n (by simp) hle (Nat.le_refl _) (by simp; omega)
    · rw [hf] at h1
      simp at h1
      exact step true (m - 1) (by simp) (by omega) (by omega) (by simp; omega)

section
variable {np nl : Nat} {pl : List Sp} {ls : List Ln} {wrg : Int} {ws ss : List Int}
theorem mem_netSets {s m : Nat} (hl : nl ≤ 8) (hs : s < 2 ^ nl) (hc : cntF nl s.testBit = m) (hok : OkBk np nl pl ls) (hcan : Can (flowL np nl pl ls s.testBit)) : s ∈ netSets np nl pl ls (m : Int) := by
  unfold netSets
  rw [List.mem_filter]
  refine ⟨by simpa using hs, ?_⟩
  have h1 := canL_iff (l := flowL np nl pl ls s.testBit) (flow_nodes hok)
  rw [flow_len] at h1
  rw [sel, cnt8 hl hs, hc, h1.2 hcan]
  simp
theorem hull_mem {l : List Sp} {x : Sp} (h : x ∈ l) : (hull l).lo ≤ x.lo ∧ x.hi ≤ (hull l).hi := by
  cases l with
  | nil => simp at h
  | cons y ys =>
    have key : ∀ (ys : List Sp) (o : Sp), ((ys.foldl joinSp o).lo ≤ o.lo ∧ o.hi ≤ (ys.foldl joinSp o).hi) ∧ ∀ x ∈ ys, (ys.foldl joinSp o).lo ≤ x.lo ∧ x.hi ≤ (ys.foldl joinSp o).hi := by
      intro ys
      induction ys with
      | nil => intro o; simp
      | cons z zs ih =>
        intro o
        have h1 := ih (joinSp o z)
        have h2 := h1.1
        simp only [joinSp] at h2
        refine ⟨by simp only [List.foldl_cons]; constructor <;> simp only [joinSp] at h2 ⊢ <;> omega, fun x hx => ?_⟩
        rcases List.mem_cons.1 hx with rfl | hx
        · simp only [List.foldl_cons]; constructor <;> simp only [joinSp] at h2 ⊢ <;> omega
        · exact h1.2 x hx
    rcases List.mem_cons.1 h with rfl | hx
    · exact (key ys x).1
    · exact (key ys y).2 x hx
theorem ends_has {l : List Pp} {i : Nat} {x : Int} (hi : i < l.length) (hn : NodesOk l) (hlh : LoHi l) (hc : Can l) (h1 : (ppAt l i).lo ≤ x) (h2 : x ≤ (ppAt l i).hi) (h : Can (withPp l i x x)) : (endsP l.length l i).lo ≤ x ∧ x ≤ (endsP l.length l i).hi :=
  ⟨(endsP_low hi hn hlh hc).least x h1 (with_mono hi h1 (Int.le_refl _) h), (endsP_high hi hn hlh hc).most x h2 (with_mono hi (Int.le_refl _) h2 h)⟩
/-- a set's ends lie within the answer -/
theorem ends_in {s i : Nat} {x : Int} (hs : s ∈ truthSets np nl pl ls wrg) (h : (endsS np nl pl ls i s).lo ≤ x ∧ x ≤ (endsS np nl pl ls i s).hi) : (endsB np nl pl ls wrg i).lo ≤ x ∧ x ≤ (endsB np nl pl ls wrg i).hi := by
  have := hull_mem (l := (truthSets np nl pl ls wrg).map (endsS np nl pl ls i)) (x := endsS np nl pl ls i s) (List.mem_map.2 ⟨s, hs, rfl⟩)
  unfold endsB
  omega
theorem fewL_le {k : Nat} (hk : k ≤ nl) (h : netSets np nl pl ls (k : Int) ≠ []) : ∃ j, fewL np nl pl ls = some j ∧ j ≤ k := by
  unfold fewL
  cases e : (List.range (nl + 1)).find? (fun (k : Nat) => !(netSets np nl pl ls (k : Int)).isEmpty) with
  | none =>
    rw [List.find?_eq_none] at e
    have := e k (by simp; omega)
    simp at this
    exact absurd this h
  | some j =>
    refine ⟨j, rfl, ?_⟩
    refine Classical.byContradiction fun hlt => ?_
    have h1 := idxN_some (n := nl + 1) (p := fun (k : Nat) => !(netSets np nl pl ls (k : Int)).isEmpty) (k := j) (by have := List.mem_of_find?_eq_some e; simpa using this) (by have := List.find?_some e; simpa using this)
    rw [List.find?_eq_some_iff_append] at e
    obtain ⟨_, l1, l2, e1, e2⟩ := e
    have hj : l1.length = j := by
      have h3 : (List.range (nl + 1))[l1.length]? = some j := by rw [e1]; simp
      rw [List.getElem?_range (by have := congrArg List.length e1; simp at this; omega)] at h3
      simpa using h3
    have h4 : (List.range (nl + 1))[k]? = l1[k]? := by rw [e1, List.getElem?_append_left (by omega)]
    rw [List.getElem?_range (by omega)] at h4
    have := e2 k (List.mem_of_getElem? h4.symm)
    simp at this
    exact h this
theorem within_of {s : Nat} (hok : OkBk np nl pl ls) (ht : isTr np nl nl nl pl ls wrg ws ss = true) (hs : ∀ i, i < nl → isRt ls ws i = false → s.testBit i = true) : Within np nl pl ls s.testBit ws ss := by
  simp only [isTr, isAc, Bool.and_eq_true, allN_iff, decide_eq_true_eq] at ht
  obtain ⟨⟨-, hac⟩, hch, -⟩ := ht
  have hS : ∀ i, i < nl → 0 ≤ iAt ss i ∧ iAt ss i ≤ 999 := fun i hi => by
    have a := hac i hi
    have b := hok.ln i
    simp only [acK, Bool.and_eq_true, wi_true_q11] at a
    omega
  refine ⟨fun i hi => ?_, fun i hi => ?_, fun j hj => ?_, ?_, sumF_const fun i hi => (hS i hi).2⟩
  · have a := hac i hi
    have b := hok.ln i
    simp only [acK, Bool.and_eq_true, wi_true_q11] at a
    cases e : isRt ls ws i
    · simp only [wPp, hs i hi e, cond_true]; omega
    · simp only [isRt, wi_true_q11] at e
      cases e2 : s.testBit i
      · simp only [wPp, e2, cond_false]; exact e
      · simp only [wPp, e2, cond_true]; omega
  · have a := hac i hi
    simp only [acK, Bool.and_eq_true, wi_true_q11] at a
    exact a.2
  · have := hch j hj
    rwa [wi_true_q11] at this
  · have : sumF (fun _ => 0) nl ≤ sumF (iAt ss) nl := sumF_le fun i hi => (hS i hi).1
    rw [sumF_zero nl (fun _ _ => rfl)] at this
    exact this
structure TruthOk (np nl : Nat) (pl : List Sp) (ls : List Ln) (wrg : Int) (ws ss : List Int) : Prop where
  ask : askZ np nl pl ls wrg true = 0
  few : ∃ k : Nat, fewL np nl pl ls = some k ∧ k ≤ wrgN ls ws nl
  w : ∀ i, i < nl → (endsB np nl pl ls wrg (2 * i)).lo ≤ iAt ws i ∧ iAt ws i ≤ (endsB np nl pl ls wrg (2 * i)).hi
  c : ∀ j : Nat, j < np → (endsB np nl pl ls wrg (2 * nl + j)).lo ≤ chgN ls ws ss (j : Int) nl ∧ chgN ls ws ss (j : Int) nl ≤ (endsB np nl pl ls wrg (2 * nl + j)).hi
  t : (endsB np nl pl ls wrg (2 * nl + np)).lo ≤ sumF (iAt ss) nl ∧ sumF (iAt ss) nl ≤ (endsB np nl pl ls wrg (2 * nl + np)).hi
  str : ∀ i ∈ strL np nl pl ls wrg, i < nl ∧ isRt ls ws i = false
theorem truth_ok (lp : pl.length = np) (ll : ls.length = nl) (hck : ckBk np nl pl ls wrg = true) (ht : isTr np nl nl nl pl ls wrg ws ss = true) : TruthOk np nl pl ls wrg ws ss := by
  obtain ⟨hok, hw0, hw8⟩ := okBk_of lp ll hck
  have hin := inBk_of hck
  have hl8 := hok.hl
  have hp5 := hok.hp
  have hwr : (wrgN ls ws nl : Int) ≤ wrg := by
    simp only [isTr, Bool.and_eq_true, decide_eq_true_eq] at ht
    exact ht.2.2
  have hwn : wrgN ls ws nl ≤ nl := cntF_le nl _
  have sets : ∀ (m : Nat), wrgN ls ws nl ≤ m → m ≤ nl → ∃ s, s ∈ netSets np nl pl ls (m : Int) ∧ Within np nl pl ls s.testBit ws ss := by
    intro m h1 h2
    obtain ⟨g, g1, g2⟩ := more_set nl (fun k => !isRt ls ws k) m h1 h2
    have hb : ∀ i, i < nl → (ofB nl g).testBit i = g i := fun i hi => by rw [ofB_bit]; simp [hi]
    have hW := within_of (s := ofB nl g) hok ht (fun i hi e => by rw [hb i hi]; exact g1 i hi (by simp [e]))
    exact ⟨ofB nl g, mem_netSets hl8 (ofB_lt nl g) (by rw [cntF_congr hb]; exact g2) hok (fix_can hin hp5 hW).1, hW⟩
  obtain ⟨m, hm⟩ : ∃ m : Nat, min wrg (nl : Int) = m := ⟨(min wrg (nl : Int)).toNat, by omega⟩
  obtain ⟨s, hs, hW⟩ := sets m (by omega) (by omega)
  have hs' : s ∈ truthSets np nl pl ls wrg := by unfold truthSets; rw [hm]; exact hs
  obtain ⟨c0, c1, c2, c3⟩ := fix_can hin hp5 hW
  have hN := flow_nodes (ws := s.testBit) hok
  have hL := flow_lohi (ws := s.testBit) hok
  have hE : ∀ {i : Nat} {x : Int}, i < 2 * nl + np + 1 → (ppAt (flowL np nl pl ls s.testBit) i).lo ≤ x → x ≤ (ppAt (flowL np nl pl ls s.testBit) i).hi → Can (withPp (flowL np nl pl ls s.testBit) i x x) → (endsB np nl pl ls wrg i).lo ≤ x ∧ x ≤ (endsB np nl pl ls wrg i).hi := by
    intro i x hi h1 h2 h
    have := ends_has (l := flowL np nl pl ls s.testBit) (by rw [flow_len]; exact hi) hN hL c0 h1 h2 h
    rw [flow_len] at this
    exact ends_in hs' this
  refine ⟨?_, ?_, fun i hi => ?_, fun j hj => ?_, ?_, fun i hi => ?_⟩
  · unfold askZ
    rw [hck]
    have : (truthSets np nl pl ls wrg).isEmpty = false := by
      cases e : truthSets np nl pl ls wrg with
      | nil => rw [e] at hs'; simp at hs'
      | cons => rfl
    rw [this]; rfl
  · obtain ⟨s', hs2, -⟩ := sets (wrgN ls ws nl) (Nat.le_refl _) hwn
    exact fewL_le hwn (fun e => by rw [e] at hs2; simp at hs2)
  · exact hE (by omega) (by rw [pp_w hi]; exact (hW.w i hi).1) (by rw [pp_w hi]; exact (hW.w i hi).2) (c1 i hi)
  · exact hE (by omega) (by rw [pp_p hj]; exact (hW.c j hj).1) (by rw [pp_p hj]; exact (hW.c j hj).2) (c2 j hj)
  · exact hE (by omega) (by rw [pp_h]; exact hW.t.1) (by rw [pp_h]; exact hW.t.2) c3
  · unfold strL strK at hi
    rw [List.mem_filter] at hi
    have hin' : i < nl := by simpa using hi.1
    refine ⟨hin', ?_⟩
    cases e : isRt ls ws i
    · rfl
    · exfalso
      have hb := hi.2
      unfold strB at hb
      rw [List.all_eq_true] at hb
      have h1 := hb s hs'
      simp only [isRt, wi_true_q11] at e
      have h2 := with_mono (l := flowL np nl pl ls s.testBit) (i := 2 * i) (by rw [flow_len]; omega) e.1 e.2 (c1 i hin')
      have h3 := canL_iff (withPp_nodes (l := flowL np nl pl ls s.testBit) (i := 2 * i) (a := (lnAt ls i).w.lo) (b := (lnAt ls i).w.hi) (by rw [flow_len]; omega) hN)
      rw [withPp_length, flow_len] at h3
      rw [noCan, h3.2 h2] at h1
      cases h1
end

end Go.Proofs.Ytdhlnlmhdacblaa

namespace Go.Proofs.Ytdhlnlmhdacblaa
open Go.RowKit
open Go.Sort (grow)
set_option linter.unusedVariables false
set_option linter.unusedSimpArgs false

section
variable {np nl : Nat} {pl : List Sp} {ls : List Ln}
theorem hull_in {l : List Sp} {L H : Int} (hne : l ≠ []) (h : ∀ x ∈ l, L ≤ x.lo ∧ x.hi ≤ H) : L ≤ (hull l).lo ∧ (hull l).hi ≤ H := by
  cases l with
  | nil => exact absurd rfl hne
  | cons y ys =>
    have key : ∀ (ys : List Sp) (o : Sp), (L ≤ o.lo ∧ o.hi ≤ H) → (∀ x ∈ ys, L ≤ x.lo ∧ x.hi ≤ H) → L ≤ (ys.foldl joinSp o).lo ∧ (ys.foldl joinSp o).hi ≤ H := by
      intro ys
      induction ys with
      | nil => intro o h1 _; exact h1
      | cons z zs ih =>
        intro o h1 h2
        rw [List.foldl_cons]
        have hz := h2 z (by simp)
        exact ih _ (by simp only [joinSp]; omega) fun x hx => h2 x (by simp [hx])
    exact key ys y (h y (by simp)) fun x hx => h x (by simp [hx])
theorem endsB_in {wrg L H : Int} {i : Nat} (hne : truthSets np nl pl ls wrg ≠ []) (h : ∀ s ∈ truthSets np nl pl ls wrg, L ≤ (endsS np nl pl ls i s).lo ∧ (endsS np nl pl ls i s).hi ≤ H) :
    L ≤ (endsB np nl pl ls wrg i).lo ∧ (endsB np nl pl ls wrg i).hi ≤ H := by
  unfold endsB
  refine hull_in (fun e => hne (List.map_eq_nil_iff.1 e)) fun x hx => ?_
  obtain ⟨s, hs, rfl⟩ := List.mem_map.1 hx
  exact h s hs
theorem cntF_zero {n : Nat} {f : Nat → Bool} (h : cntF n f = 0) : ∀ i, i < n → f i = false := by
  intro i hi
  unfold cntF at h
  have h1 := List.eq_nil_of_length_eq_zero h
  rw [List.filter_eq_nil_iff] at h1
  simpa using h1 i (by simpa using hi)
theorem net_of {s : Nat} {m : Int} (hok : OkBk np nl pl ls) (h : s ∈ netSets np nl pl ls m) : (cntF nl s.testBit : Int) = m ∧ Can (flowL np nl pl ls s.testBit) := by
  unfold netSets at h
  rw [List.mem_filter] at h
  obtain ⟨h1, h2⟩ := h
  have hs : s < 2 ^ nl := by simpa using h1
  simp only [sel, Bool.and_eq_true, beq_iff_eq] at h2
  have h3 := canL_iff (l := flowL np nl pl ls s.testBit) (flow_nodes hok)
  rw [flow_len] at h3
  rw [cnt8 hok.hl hs] at h2
  exact ⟨h2.1, h3.1 h2.2⟩
theorem truth_zero {s : Nat} (hok : OkBk np nl pl ls) (h : s ∈ truthSets np nl pl ls 0) : (∀ i, i < nl → s.testBit i = false) ∧ Can (flowL np nl pl ls s.testBit) := by
  unfold truthSets at h
  rw [show min (0 : Int) (nl : Int) = 0 by omega] at h
  obtain ⟨h1, h2⟩ := net_of hok h
  exact ⟨cntF_zero (by omega), h2⟩
/-- the ends of a net lie within the bounds of the pipe -/
theorem endsS_pipe {i s : Nat} : (ppAt (flowL np nl pl ls s.testBit) i).lo ≤ (endsS np nl pl ls i s).lo ∧ (endsS np nl pl ls i s).hi ≤ (ppAt (flowL np nl pl ls s.testBit) i).hi := by
  unfold endsS endsP
  simp only
  omega
theorem endsS_low {i s : Nat} (hok : OkBk np nl pl ls) (hi : i < 2 * nl + np + 1) (hc : Can (flowL np nl pl ls s.testBit)) (S : Nat → Bool) (hS : enP S (ppAt (flowL np nl pl ls s.testBit) i) = true) :
    0 ≤ gx S (flowL np nl pl ls s.testBit) i + (endsS np nl pl ls i s).lo := by
  have hi' : i < (flowL np nl pl ls s.testBit).length := by rw [flow_len]; exact hi
  have h := endsP_low hi' (flow_nodes hok) (flow_lohi hok) hc
  have h2 := (can_low hi' hc (Int.le_refl _)).1 h.can S hS
  rw [flow_len] at h2
  exact h2
theorem endsS_high {i s : Nat} (hok : OkBk np nl pl ls) (hi : i < 2 * nl + np + 1) (hc : Can (flowL np nl pl ls s.testBit)) (S : Nat → Bool) (hS : lvP S (ppAt (flowL np nl pl ls s.testBit) i) = true) :
    0 ≤ gx S (flowL np nl pl ls s.testBit) i - (endsS np nl pl ls i s).hi := by
  have hi' : i < (flowL np nl pl ls s.testBit).length := by rw [flow_len]; exact hi
  have h := endsP_high hi' (flow_nodes hok) (flow_lohi hok) hc
  have h2 := (can_high hi' hc (Int.le_refl _)).1 h.can S hS
  rw [flow_len] at h2
  exact h2
theorem askZ_ne {wrg : Int} (h : askZ np nl pl ls wrg true = 0) : truthSets np nl pl ls wrg ≠ [] := fun e => by
  obtain ⟨-, -, h3⟩ := askZ_zero h
  rw [e] at h3
  cases h3
theorem fewR_zero {wrg : Int} (hck : ckBk np nl pl ls wrg = true) {k : Nat} (h : fewL np nl pl ls = some k) : fewR np nl pl ls wrg = ((k : Int), 0) := by
  unfold fewR
  rw [hck, h]; rfl
end
def sawPl (rl rh : Int) : List Sp := [⟨rl, rh⟩]
def sawLs (ca we cl ch : Int) : List Ln := [⟨-1, 0, ⟨ca, ca⟩, ⟨cl, ch⟩⟩, ⟨0, -1, ⟨we, we⟩, ⟨0, 0⟩⟩]
section
variable {ca we cl ch rl rh : Int}
theorem saw_ck (h1 : 0 ≤ cl) (h2 : cl ≤ ch) (h3 : rl + ch = ca - we) (h4 : rh + cl = ca - we) (h5 : 0 ≤ rl) (h6 : 0 ≤ we) (h7 : ca ≤ 999) : ckBk 1 2 (sawPl rl rh) (sawLs ca we cl ch) 0 = true := by
  simp [ckBk, allN, ckSp, ckLn, isEnd, isNo, wi_q11, sawPl, sawLs, spAt, lnAt, List.range_succ]
  omega
theorem saw_tr {x : Int} (h1 : 0 ≤ cl) (hx : cl ≤ x ∧ x ≤ ch) (h3 : rl + ch = ca - we) (h4 : rh + cl = ca - we) (h5 : 0 ≤ rl) (h6 : 0 ≤ we) (h7 : ca ≤ 999) : isTr 1 2 2 2 (sawPl rl rh) (sawLs ca we cl ch) 0 [ca, we] [x, 0] = true := by
  simp [isTr, isAc, acK, allN, chgN, wrgN, isRt, wi_q11, sawPl, sawLs, spAt, lnAt, iAt, List.range_succ]
  omega
end
section
variable {ca we cl ch rl rh : Int}
theorem saw_led (h1 : 0 ≤ cl) (h2 : cl ≤ ch) (h3 : rl + ch = ca - we) (h4 : rh + cl = ca - we) (h5 : 0 ≤ rl) (h6 : 0 ≤ we) (h7 : ca ≤ 999) :
    askZ 1 2 (sawPl rl rh) (sawLs ca we cl ch) 0 true = 0 ∧ fewR 1 2 (sawPl rl rh) (sawLs ca we cl ch) 0 = (0, 0) ∧ endsB 1 2 (sawPl rl rh) (sawLs ca we cl ch) 0 4 = ⟨rl, rh⟩ ∧ endsB 1 2 (sawPl rl rh) (sawLs ca we cl ch) 0 5 = ⟨cl, ch⟩ := by
  have hck := saw_ck h1 h2 h3 h4 h5 h6 h7
  have t1 := truth_ok (np := 1) (nl := 2) (pl := sawPl rl rh) (ls := sawLs ca we cl ch) rfl rfl hck (saw_tr (x := cl) h1 ⟨Int.le_refl _, h2⟩ h3 h4 h5 h6 h7)
  have t2 := truth_ok (np := 1) (nl := 2) (pl := sawPl rl rh) (ls := sawLs ca we cl ch) rfl rfl hck (saw_tr (x := ch) h1 ⟨h2, Int.le_refl _⟩ h3 h4 h5 h6 h7)
  obtain ⟨hok, -, -⟩ := okBk_of (pl := sawPl rl rh) (ls := sawLs ca we cl ch) rfl rfl hck
  have hne := askZ_ne t1.ask
  have hz := fun s hs => truth_zero (s := s) hok hs
  refine ⟨t1.ask, ?_, ?_, ?_⟩
  · obtain ⟨k, hk, hk0⟩ := t1.few
    have hw : wrgN (sawLs ca we cl ch) [ca, we] 2 = 0 := by
      simp [wrgN, isRt, wi_q11, sawLs, lnAt, iAt, List.range_succ]
    rw [hw] at hk0
    obtain rfl : k = 0 := by omega
    exact fewR_zero hck hk
  · have a1 := t1.c 0 (by omega)
    have a2 := t2.c 0 (by omega)
    have e : ∀ x, chgN (sawLs ca we cl ch) [ca, we] [x, 0] ((0 : Nat) : Int) 2 = ca - we - x := fun x => by
      simp [chgN, sawLs, lnAt, iAt]; omega
    rw [e] at a1 a2
    obtain ⟨b1, b2⟩ := endsB_in (L := rl) (H := rh) (i := 4) hne fun s hs => by
      have h := endsS_pipe (np := 1) (nl := 2) (pl := sawPl rl rh) (ls := sawLs ca we cl ch) (i := 4) (s := s)
      have hp : ppAt (flowL 1 2 (sawPl rl rh) (sawLs ca we cl ch) s.testBit) 4 = pPp 0 (spAt (sawPl rl rh) 0) := pp_p (np := 1) (nl := 2) (j := 0) (by omega)
      rw [hp] at h
      exact h
    obtain ⟨E, hE⟩ : ∃ E, endsB 1 2 (sawPl rl rh) (sawLs ca we cl ch) 0 4 = E := ⟨_, rfl⟩
    simp only [Nat.mul_one, Nat.add_zero] at a1 a2
    rw [show (2 * 2 : Nat) = 4 from rfl, hE] at a1 a2
    rw [hE] at b1 b2 ⊢
    obtain ⟨el, eh⟩ := E
    simp only at a1 a2 b1 b2
    have k1 : el = rl := by omega
    have k2 : eh = rh := by omega
    rw [k1, k2]
  · have a1 := t1.t
    have a2 := t2.t
    have e : ∀ x, sumF (iAt [x, 0]) 2 = x := fun x => by simp [sumF, iAt]
    rw [e] at a1 a2
    obtain ⟨b1, b2⟩ := endsB_in (L := cl) (H := ch) (i := 5) hne fun s hs => by
      obtain ⟨z1, z2⟩ := hz s hs
      have hp : ppAt (flowL 1 2 (sawPl rl rh) (sawLs ca we cl ch) s.testBit) 5 = hPp ((2 : Nat) * 999) := pp_h (np := 1) (nl := 2)
      have g : ∀ S : Nat → Bool, gx S (flowL 1 2 (sawPl rl rh) (sawLs ca we cl ch) s.testBit) 5 = sumF (fun i => gp S (wPp s.testBit i (lnAt (sawLs ca we cl ch) i)) + gp S (sPp (lnAt (sawLs ca we cl ch) i))) 2 + sumF (fun i => gp S (pPp i (spAt (sawPl rl rh) i))) 1 := fun S => by
        unfold gx
        rw [gap_flow, hp]
        exact Int.add_sub_cancel _ _
      have l1 := endsS_low (np := 1) (nl := 2) (i := 5) hok (by omega) z2 (fun n => n == 5 || n == 0) (by rw [hp]; rfl)
      have l2 := endsS_high (np := 1) (nl := 2) (i := 5) hok (by omega) z2 (fun n => n == 6) (by rw [hp]; rfl)
      rw [g] at l1 l2
      obtain ⟨X, hX⟩ : ∃ x, endsS 1 2 (sawPl rl rh) (sawLs ca we cl ch) 5 s = x := ⟨_, rfl⟩
      rw [hX] at l1 l2 ⊢
      simp [sumF, gp, wPp, sPp, pPp, nodeZ, sawLs, sawPl, lnAt, spAt] at l1 l2
      omega
    obtain ⟨E, hE⟩ : ∃ E, endsB 1 2 (sawPl rl rh) (sawLs ca we cl ch) 0 5 = E := ⟨_, rfl⟩
    rw [show (2 * 2 + 1 : Nat) = 5 from rfl, hE] at a1 a2
    rw [hE] at b1 b2 ⊢
    obtain ⟨el, eh⟩ := E
    simp only at a1 a2 b1 b2
    have k1 : el = cl := by omega
    have k2 : eh = ch := by omega
    rw [k1, k2]
end

end Go.Proofs.Ytdhlnlmhdacblaa

namespace Go.Proofs.Ytdhlnlmhdacblaa
open Go.RowKit
open Go.Sort (grow)
set_option linter.unusedVariables false
set_option linter.unusedSimpArgs false

def lgW : Ln := ⟨-1, 0, ⟨1, 1⟩, ⟨0, 0⟩⟩
def lgC : Ln := ⟨0, -1, ⟨1, 1⟩, ⟨0, 0⟩⟩
def lgOf (d : Dd) : List Ln := bif d.wh == 1 then [lgW] else (bif d.wh == 2 then [lgC] else [])
/-- the lines of the first k deeds -/
def lgL (ds : List Dd) (k : Nat) : List Ln := (List.range k).flatMap fun i => lgOf (ddAt ds i)
theorem lgL_0 {ds : List Dd} : lgL ds 0 = [] := rfl
theorem lgL_succ {ds : List Dd} {k : Nat} : lgL ds (k + 1) = lgL ds k ++ lgOf (ddAt ds k) := by
  unfold lgL
  rw [List.range_succ, List.flatMap_append]; simp
theorem lgOf_len {d : Dd} : (lgOf d).length ≤ 1 := by
  unfold lgOf
  cases d.wh == 1 <;> cases d.wh == 2 <;> simp
theorem lgL_len {ds : List Dd} : ∀ k, (lgL ds k).length ≤ k := by
  intro k
  induction k with
  | zero => simp [lgL]
  | succ k ih =>
    have := lgOf_len (d := ddAt ds k)
    rw [lgL_succ, List.length_append]; omega
theorem lgL_mem {ds : List Dd} {k : Nat} : ∀ l ∈ lgL ds k, l = lgW ∨ l = lgC := by
  intro l hl
  unfold lgL at hl
  obtain ⟨i, -, h⟩ := List.mem_flatMap.1 hl
  unfold lgOf at h
  cases e1 : (ddAt ds i).wh == 1 <;> cases e2 : (ddAt ds i).wh == 2 <;> rw [e1, e2] at h <;> simp at h <;> simp [h]
def sgL (l : Ln) : Int := bif l.to == 0 then 1 else -1
theorem sum_lg {ds : List Dd} : ∀ k, ((lgL ds k).map sgL).sum = ln2 ds k := by
  intro k
  induction k with
  | zero => rfl
  | succ k ih =>
    rw [lgL_succ, List.map_append, List.sum_append, ih, ln2_succ]
    congr 1
    unfold lgOf gr2
    cases e1 : (ddAt ds k).wh == 1 <;> cases e2 : (ddAt ds k).wh == 2 <;> simp [sgL, lgW, lgC]
theorem sumF_list {L : List Ln} : sumF (fun i => sgL (lnAt L i)) L.length = (L.map sgL).sum := by
  have key : ∀ n, n ≤ L.length → sumF (fun i => sgL (lnAt L i)) n = ((L.take n).map sgL).sum := by
    intro n
    induction n with
    | zero => intro _; rfl
    | succ n ih =>
      intro hn
      simp only [sumF]
      rw [ih (by omega), List.take_add_one, List.getElem?_eq_getElem (by omega), Option.toList_some, List.map_append, List.sum_append]
      unfold lnAt
      rw [List.getD_eq_getElem?_getD, List.getElem?_eq_getElem (by omega)]
      simp
  rw [key L.length (Nat.le_refl _), List.take_length]
section
variable {L : List Ln} {nl : Nat} {lo hi : Int}
theorem lnAt_mem {i : Nat} (h : i < L.length) : lnAt L i ∈ L := by
  unfold lnAt
  rw [List.getD_eq_getElem?_getD, List.getElem?_eq_getElem h]
  exact List.getElem_mem h
/-- lines of links alone -/
structure Lg (L : List Ln) (nl : Nat) (T : Int) : Prop where
  len : L.length = nl
  le : nl ≤ 8
  kd : ∀ i, i < nl → lnAt L i = lgW ∨ lnAt L i = lgC
  sm : sumF (fun i => sgL (lnAt L i)) nl = T
theorem Lg.of {ds : List Dd} {k : Nat} (h : (lgL ds k).length ≤ 8) : Lg (lgL ds k) (lgL ds k).length (ln2 ds k) :=
  ⟨rfl, h, fun i hi => lgL_mem _ (lnAt_mem hi), by rw [sumF_list, sum_lg]⟩
variable {T : Int}
theorem Lg.ck (h : Lg L nl T) (wr : Int) (hw : 0 ≤ wr ∧ wr ≤ 8) (h1 : -999 ≤ lo) (h2 : lo ≤ hi) (h3 : hi ≤ 999) : ckBk 1 nl [⟨lo, hi⟩] L wr = true := by
  have h8 := h.le
  have a1 : allN nl (fun k => ckLn 1 (lnAt L k)) = true := allN_iff.2 fun k hk => by
    rcases h.kd k hk with e | e <;> rw [e] <;> decide
  have a2 : allN 1 (fun k => ckSp (spAt [⟨lo, hi⟩] k)) = true := allN_iff.2 fun k hk => by
    obtain rfl : k = 0 := by omega
    simp [ckSp, spAt, wi_q11]
    omega
  unfold ckBk
  rw [a1, a2]
  simp [wi_q11]
  omega
/-- the change of the place where the weights are ws and nothing is lost -/
theorem Lg.chg (h : Lg L nl T) {ws ss : List Int} (hs : ∀ i, iAt ss i = 0) : ∀ n, n ≤ nl → chgN L ws ss 0 n = sumF (fun i => sgL (lnAt L i) * iAt ws i) n := by
  intro n
  induction n with
  | zero => intro _; rfl
  | succ n ih =>
    intro hn
    simp only [chgN, sumF]
    rw [ih (by omega), hs]
    rcases h.kd n (by omega) with e | e <;> rw [e] <;> simp [lgW, lgC, sgL]
    omega
theorem rep_at {n : Nat} {x : Int} {i : Nat} (h : i < n) : iAt (List.replicate n x) i = x := by
  unfold iAt
  rw [List.getD_eq_getElem?_getD, List.getElem?_replicate, if_pos h]; rfl
theorem rep_zero {n i : Nat} : iAt (List.replicate n (0 : Int)) i = 0 := by
  unfold iAt
  rw [List.getD_eq_getElem?_getD, List.getElem?_replicate]
  split <;> rfl
theorem Lg.chg1 (h : Lg L nl T) : chgN L (List.replicate nl 1) (List.replicate nl 0) 0 nl = T := by
  rw [h.chg (fun i => rep_zero) nl (Nat.le_refl _), ← h.sm]
  exact sumF_congr fun i hi => by rw [rep_at hi]; omega
theorem wrg_none {ws : List Int} (h : ∀ i, i < nl → isRt L ws i = true) : wrgN L ws nl = 0 := by
  unfold wrgN
  rw [List.length_eq_zero_iff, List.filter_eq_nil_iff]
  intro a ha
  rw [h a (by simpa using ha)]
  simp
theorem Lg.tr (h : Lg L nl T) (h1 : lo ≤ T) (h2 : T ≤ hi) : isTr 1 nl nl nl [⟨lo, hi⟩] L 0 (List.replicate nl 1) (List.replicate nl 0) = true ∧ wrgN L (List.replicate nl 1) nl = 0 := by
  have hw : wrgN L (List.replicate nl 1) nl = 0 := wrg_none fun i hi => by
    unfold isRt
    rw [rep_at hi]
    rcases h.kd i hi with e | e <;> rw [e] <;> decide
  refine ⟨?_, hw⟩
  have a1 : allN nl (acK L (List.replicate nl 1) (List.replicate nl 0)) = true := allN_iff.2 fun k hk => by
    unfold acK
    rw [rep_at hk, rep_zero]
    rcases h.kd k hk with e | e <;> rw [e] <;> decide
  have a2 : allN 1 (fun p => wi_q11 (chgN L (List.replicate nl 1) (List.replicate nl 0) p nl) (spAt [⟨lo, hi⟩] p).lo (spAt [⟨lo, hi⟩] p).hi) = true := allN_iff.2 fun k hk => by
    obtain rfl : k = 0 := by omega
    rw [show ((0 : Nat) : Int) = 0 from rfl, h.chg1]
    simp [wi_q11, spAt]
    omega
  unfold isTr isAc
  rw [a1, a2, hw]
  simp
/-- what the lines bring to the place: both ways around -/
theorem Lg.gap (h : Lg L nl T) {f : Nat → Bool} (hf : ∀ i, i < nl → f i = false) :
    sumF (fun i => gp (fun n => n == 0) (wPp f i (lnAt L i)) + gp (fun n => n == 0) (sPp (lnAt L i))) nl = T ∧ sumF (fun i => gp (fun n => n != 0) (wPp f i (lnAt L i)) + gp (fun n => n != 0) (sPp (lnAt L i))) nl = -T := by
  constructor
  · rw [← h.sm]
    exact sumF_congr fun i hi => by
      rcases h.kd i hi with e | e <;> rw [e] <;> simp [gp, wPp, sPp, nodeZ, lgW, lgC, sgL, hf i hi]
  · have e : -T = sumF (fun i => -sgL (lnAt L i)) nl := by
      rw [← h.sm]
      have := sumF_add (fun i => sgL (lnAt L i)) (fun i => -sgL (lnAt L i)) nl
      rw [sumF_zero nl (fun i _ => by omega)] at this
      omega
    rw [e]
    exact sumF_congr fun i hi => by
      rcases h.kd i hi with e | e <;> rw [e] <;> simp [gp, wPp, sPp, nodeZ, lgW, lgC, sgL, hf i hi]
end
section
variable {L : List Ln} {nl : Nat} {T : Int}
theorem Lg.pipe (h : Lg L nl T) {lo hi : Int} {f : Nat → Bool} (hf : ∀ i, i < nl → f i = false) :
    gx (fun n => n == 0) (flowL 1 nl [⟨lo, hi⟩] L f) (2 * nl) = T ∧ gx (fun n => n != 0) (flowL 1 nl [⟨lo, hi⟩] L f) (2 * nl) = -T ∧ ppAt (flowL 1 nl [⟨lo, hi⟩] L f) (2 * nl) = pPp 0 ⟨lo, hi⟩ := by
  have hp : ppAt (flowL 1 nl [⟨lo, hi⟩] L f) (2 * nl) = pPp 0 ⟨lo, hi⟩ := pp_p (np := 1) (nl := nl) (j := 0) (by omega)
  obtain ⟨g1, g2⟩ := h.gap hf
  refine ⟨?_, ?_, hp⟩
  · unfold gx
    rw [gap_flow, hp, g1]
    first | (simp [sumF, gp, pPp, hPp, spAt]; done) | (simp [sumF, gp, pPp, hPp, spAt]; omega)
  · unfold gx
    rw [gap_flow, hp, g2]
    first | (simp [sumF, gp, pPp, hPp, spAt]; done) | (simp [sumF, gp, pPp, hPp, spAt]; omega)
/-- the stock is just the length -/
theorem Lg.first (h : Lg L nl T) (h0 : 0 ≤ T ∧ T ≤ 12) : askZ 1 nl [⟨0, 12⟩] L 0 true = 0 ∧ fewR 1 nl [⟨0, 12⟩] L 0 = (0, 0) ∧ endsB 1 nl [⟨0, 12⟩] L 0 (2 * nl) = ⟨T, T⟩ := by
  have hck := h.ck (lo := 0) (hi := 12) 0 (by omega) (by omega) (by omega) (by omega)
  obtain ⟨ht, hw⟩ := h.tr h0.1 h0.2
  have t1 := truth_ok (np := 1) (nl := nl) (pl := [⟨0, 12⟩]) (ls := L) rfl h.len hck ht
  obtain ⟨hok, -, -⟩ := okBk_of (np := 1) (pl := [⟨0, 12⟩]) (ls := L) rfl h.len hck
  have hne := askZ_ne t1.ask
  refine ⟨t1.ask, ?_, ?_⟩
  · obtain ⟨k, hk, hk0⟩ := t1.few
    rw [hw] at hk0
    obtain rfl : k = 0 := by omega
    exact fewR_zero hck hk
  · have a1 := t1.c 0 (by omega)
    rw [show ((0 : Nat) : Int) = 0 from rfl, h.chg1, Nat.add_zero] at a1
    obtain ⟨b1, b2⟩ := endsB_in (L := T) (H := T) (i := 2 * nl) hne fun s hs => by
      obtain ⟨z1, z2⟩ := truth_zero (s := s) hok hs
      obtain ⟨p1, p2, hp⟩ := h.pipe (lo := 0) (hi := 12) z1
      have l1 := endsS_low (np := 1) (nl := nl) (i := 2 * nl) hok (by omega) z2 (fun n => n != 0) (by rw [hp]; rfl)
      have l2 := endsS_high (np := 1) (nl := nl) (i := 2 * nl) hok (by omega) z2 (fun n => n == 0) (by rw [hp]; rfl)
      rw [p2] at l1
      rw [p1] at l2
      omega
    obtain ⟨E, hE⟩ : ∃ E, endsB 1 nl [⟨0, 12⟩] L 0 (2 * nl) = E := ⟨_, rfl⟩
    rw [hE] at a1 b1 b2 ⊢
    obtain ⟨el, eh⟩ := E
    simp only at a1 b1 b2
    have k1 : el = T := by omega
    have k2 : eh = T := by omega
    rw [k1, k2]
/-- without a wrong line no other stock is there -/
theorem Lg.none (h : Lg L nl T) (h0 : 0 ≤ T ∧ T ≤ 12) : netSets 1 nl [⟨T + 1, T + 1⟩] L ((0 : Nat) : Int) = [] := by
  have hck := h.ck (lo := T + 1) (hi := T + 1) 0 (by omega) (by omega) (by omega) (by omega)
  obtain ⟨hok, -, -⟩ := okBk_of (np := 1) (pl := [⟨T + 1, T + 1⟩]) (ls := L) rfl h.len hck
  refine List.eq_nil_iff_forall_not_mem.2 fun s hs => ?_
  obtain ⟨h1, h2⟩ := net_of hok hs
  have hz := cntF_zero (n := nl) (f := s.testBit) (by omega)
  obtain ⟨p1, -, hp⟩ := h.pipe (lo := T + 1) (hi := T + 1) hz
  have h3 := h2 (fun n => n == 0)
  have h4 : gp (fun n => n == 0) (ppAt (flowL 1 nl [⟨T + 1, T + 1⟩] L s.testBit) (2 * nl)) = -(T + 1) := by
    rw [hp]
    simp [gp, pPp]
  unfold gx at p1
  omega
theorem wrg_first {ws : List Int} (h : ∀ i, 0 < i → i < nl → isRt L ws i = true) : ∀ n, n ≤ nl → wrgN L ws n ≤ 1 ∧ (n = 0 → wrgN L ws n = 0) := by
  intro n
  induction n with
  | zero => intro _; simp [wrgN]
  | succ n ih =>
    intro hn
    have h1 := ih (by omega)
    rw [wrgN_succ]
    refine ⟨?_, fun e => absurd e (by omega)⟩
    by_cases e : n = 0
    · subst e
      rw [h1.2 rfl]
      cases isRt L ws 0 <;> simp
    · rw [h n (by omega) (by omega)]
      simpa using h1.1
def wFst (L : List Ln) (nl : Nat) : List Int := (List.replicate nl 1).set 0 (bif (lnAt L 0).to == 0 then 2 else 0)
theorem wFst_at {i : Nat} (hn : 0 < nl) (hi : i < nl) : iAt (wFst L nl) i = if i = 0 then (bif (lnAt L 0).to == 0 then 2 else 0) else 1 := by
  unfold wFst iAt
  rw [List.getD_eq_getElem?_getD, List.getElem?_set]
  by_cases e : i = 0
  · subst e
    simp [hn]
  · rw [if_neg (fun h => e h.symm), if_neg e, List.getElem?_replicate, if_pos hi]; rfl
/-- one line more or less is enough -/
theorem Lg.second (h : Lg L nl T) (h0 : 0 ≤ T ∧ T ≤ 12) (hn : 0 < nl) : fewR 1 nl [⟨T + 1, T + 1⟩] L 0 = (1, 0) := by
  have hck := h.ck (lo := T + 1) (hi := T + 1) 0 (by omega) (by omega) (by omega) (by omega)
  have hck1 := h.ck (lo := T + 1) (hi := T + 1) 1 (by omega) (by omega) (by omega) (by omega)
  have hwl : (wFst L nl).length = nl := by simp [wFst]
  have hw := (wrg_first (L := L) (nl := nl) (ws := wFst L nl) (fun i h1 h2 => by
    unfold isRt
    rw [wFst_at hn h2, if_neg (by omega)]
    rcases h.kd i h2 with e | e <;> rw [e] <;> decide) nl (Nat.le_refl _)).1
  have hch : chgN L (wFst L nl) (List.replicate nl 0) 0 nl = T + 1 := by
    rw [h.chg (fun i => rep_zero) nl (Nat.le_refl _), ← h.sm, sumF_but (f := fun i => sgL (lnAt L i) * iAt (wFst L nl) i) (g := fun i => sgL (lnAt L i)) hn fun i hi hne => by
      rw [wFst_at hn hi, if_neg hne]; omega]
    rw [wFst_at hn hn, if_pos rfl]
    rcases h.kd 0 hn with e | e <;> rw [e] <;> simp [sgL, lgW, lgC]
  have ht : isTr 1 nl nl nl [⟨T + 1, T + 1⟩] L 1 (wFst L nl) (List.replicate nl 0) = true := by
    have a1 : allN nl (acK L (wFst L nl) (List.replicate nl 0)) = true := allN_iff.2 fun k hk => by
      unfold acK
      rw [wFst_at hn hk, rep_zero]
      by_cases e0 : k = 0
      · subst e0
        rw [if_pos rfl]
        rcases h.kd 0 hk with e | e <;> rw [e] <;> decide
      · rw [if_neg e0]
        rcases h.kd k hk with e | e <;> rw [e] <;> decide
    have a2 : allN 1 (fun p => wi_q11 (chgN L (wFst L nl) (List.replicate nl 0) p nl) (spAt [⟨T + 1, T + 1⟩] p).lo (spAt [⟨T + 1, T + 1⟩] p).hi) = true := allN_iff.2 fun k hk => by
      obtain rfl : k = 0 := by omega
      rw [show ((0 : Nat) : Int) = 0 from rfl, hch]
      simp [wi_q11, spAt]
    unfold isTr isAc
    rw [a1, a2]
    simp
    omega
  have t1 := truth_ok (np := 1) (nl := nl) (pl := [⟨T + 1, T + 1⟩]) (ls := L) rfl h.len hck1 ht
  obtain ⟨k, hk, hk0⟩ := t1.few
  have hk1 : k ≠ 0 := fun e => by
    subst e
    unfold fewL at hk
    have h1 := List.find?_some hk
    rw [h.none h0] at h1
    simp at h1
  obtain rfl : k = 1 := by omega
  exact fewR_zero hck hk
theorem Lg.empty (h : Lg L 0 T) (h0 : 0 ≤ T ∧ T ≤ 12) : fewR 1 0 [⟨T + 1, T + 1⟩] L 0 = (0, 3) := by
  have hck := h.ck (lo := T + 1) (hi := T + 1) 0 (by omega) (by omega) (by omega) (by omega)
  have h1 : fewL 1 0 [⟨T + 1, T + 1⟩] L = Option.none := fewL_none (nl := 0) fun j hj => by
    obtain rfl : j = 0 := by omega
    exact h.none h0
  unfold fewR
  rw [hck, h1]; rfl
end

end Go.Proofs.Ytdhlnlmhdacblaa
