/- The plain law of TopPieces: the pieces of a repair, the order that they make. -/
import Derived.Test.YtcbeiadimchknaaGreatQp19
import Derived.Test.YtcbeiadimchknaaGreatQp29
import Derived.Test.YtcbeiadimchknaaGreatQp32
import Derived.Test.YtcbeiadimchknaaGreatQp28
namespace Go.Proofs.YtcbeiadimchknaaGreat
open Go.RowKit
open Go.Sort (grow)
set_option linter.unusedVariables false
set_option linter.unusedSimpArgs false

/-- each number as a span -/
def dbS (ns : List Int) : List Sp := ns.map fun v => ⟨v, v⟩
theorem dbS_len {ns : List Int} : (dbS ns).length = ns.length := by unfold dbS; rw [List.length_map]
theorem dbS_sk {ns : List Int} : skS (dbS ns) = pcK ns := by
  unfold skS dbS pcK
  rw [List.map_map]
  rfl
theorem dbS_push {ns : List Int} {v : Int} : dbS (ns ++ [v]) = dbS ns ++ [⟨v, v⟩] := by unfold dbS; rw [List.map_append]; rfl
theorem dbS_set {ns : List Int} {i : Nat} {v : Int} : (dbS ns).set i ⟨v, v⟩ = dbS (ns.set i v) := by unfold dbS; rw [List.map_set]
theorem dbS_at {ns : List Int} {i : Nat} (h : i < ns.length) : (dbS ns).getD i ⟨0, 0⟩ = ⟨iAt ns i, iAt ns i⟩ := by
  unfold dbS iAt
  rw [List.getD_eq_getElem?_getD, List.getD_eq_getElem?_getD, List.getElem?_map, List.getElem?_eq_getElem h]
  rfl
theorem pcs_skip {x k : Nat} (h : x.testBit k = true) : pcs x (k + 1) = pcs x k := by simp [pcs, h]
theorem pcs_new {x k : Nat} (h : x.testBit k = false) (h2 : pcs x k = [] ∨ k = 0 ∨ x.testBit (k - 1) = true) : pcs x (k + 1) = pcs x k ++ [1] := by
  have : (k == 0 || x.testBit (k - 1)) = true := by
    rcases h2 with h2 | h2 | h2
    · by_cases h0 : k = 0
      · simp [h0]
      · cases e : x.testBit (k - 1)
        · exact absurd h2 (pcs_ne h0 e)
        · simp
    · simp [h2]
    · simp [h2]
  simp only [pcs, h, this, cond_false, cond_true]
theorem pcs_bump {x k : Nat} (h : x.testBit k = false) (h0 : k ≠ 0) (h1 : x.testBit (k - 1) = false) : pcs x (k + 1) = (pcs x k).set ((pcs x k).length - 1) (iAt (pcs x k) ((pcs x k).length - 1) + 1) := by
  rw [← bump_set (pcs_ne h0 h1)]
  simp [pcs, h, h1, show (k == 0) = false by simpa using h0]
/-- how many of the first k links are left -/
def lfC (x : Nat) : Nat → Nat
  | 0 => 0
  | k + 1 => if x.testBit k = true then lfC x k else lfC x k + 1
theorem lfC_le (x : Nat) : ∀ k, lfC x k ≤ k
  | 0 => Nat.le_refl _
  | k + 1 => by
    have := lfC_le x k
    unfold lfC
    split <;> omega
theorem lfC_lef (x : Nat) : ∀ k, (lefN x k).length = lfC x k
  | 0 => rfl
  | k + 1 => by
    have := lfC_lef x k
    unfold lefN at this ⊢
    unfold lfC
    rw [List.range_succ, List.filter_append, List.length_append, this]
    cases h : x.testBit k <;> simp [h]
theorem bump_sum : ∀ l : List Int, l ≠ [] → (bump l).sum = l.sum + 1
  | [], h => absurd rfl h
  | [a], _ => by simp [bump]
  | a :: b :: l, _ => by
    have := bump_sum (b :: l) (by simp)
    rw [show bump (a :: b :: l) = a :: bump (b :: l) from rfl, List.sum_cons, this, List.sum_cons (a := a)]
    omega
theorem pcs_sum (x : Nat) : ∀ k, (pcs x k).sum = (lfC x k : Int)
  | 0 => rfl
  | k + 1 => by
    have ih := pcs_sum x k
    unfold lfC
    cases h : x.testBit k
    · by_cases h2 : k = 0 ∨ x.testBit (k - 1) = true
      · rw [pcs_new h (.inr h2)]
        simp [ih]
      · have h0 : k ≠ 0 := fun e => h2 (.inl e)
        have h1 : x.testBit (k - 1) = false := by
          cases e : x.testBit (k - 1)
          · rfl
          · exact absurd (.inr e) h2
        rw [pcs_bump h h0 h1, ← bump_set (pcs_ne h0 h1), bump_sum _ (pcs_ne h0 h1), ih]
        simp
    · rw [pcs_skip h]
      simp [ih]
theorem smK_sum {ns : List Int} : ∀ k, k ≤ ns.length → smK ns k = (ns.take k).sum
  | 0, _ => rfl
  | k + 1, h => by
    rw [show smK ns (k + 1) = smK ns k + iAt ns k from rfl, smK_sum k (by omega), List.take_add_one, List.getElem?_eq_getElem (by omega), List.sum_append]
    unfold iAt
    rw [List.getD_eq_getElem?_getD, List.getElem?_eq_getElem (by omega)]
    simp
theorem smK_pcs (x n : Nat) : smK (pcs x n) (pcs x n).length = (lfC x n : Int) := by rw [smK_sum _ (Nat.le_refl _), List.take_length, pcs_sum]
theorem pcs_few (x : Nat) : ∀ n, 2 * (pcs x n).length ≤ n + 1 ∧ (n = 0 ∨ x.testBit (n - 1) = true → 2 * (pcs x n).length ≤ n)
  | 0 => ⟨by simp [pcs], fun _ => by simp [pcs]⟩
  | n + 1 => by
    obtain ⟨i1, i2⟩ := pcs_few x n
    cases h : x.testBit n
    · refine ⟨?_, fun h2 => ?_⟩
      · by_cases h2 : n = 0 ∨ x.testBit (n - 1) = true
        · have := i2 h2
          rw [pcs_new h (.inr h2), List.length_append, List.length_singleton]
          omega
        · have h0 : n ≠ 0 := fun e => h2 (.inl e)
          have h1 : x.testBit (n - 1) = false := by
            cases e : x.testBit (n - 1)
            · rfl
            · exact absurd (.inr e) h2
          rw [pcs_bump h h0 h1, List.length_set]
          omega
      · rcases h2 with h2 | h2
        · omega
        · rw [Nat.add_sub_cancel] at h2; rw [h2] at h; cases h
    · rw [pcs_skip h]
      omega
theorem pcs_at {x n i : Nat} (h : i < (pcs x n).length) : 1 ≤ iAt (pcs x n) i ∧ iAt (pcs x n) i ≤ n := by
  refine pcs_bd x n _ ?_
  unfold iAt
  rw [List.getD_eq_getElem?_getD, List.getElem?_eq_getElem h]
  exact List.getElem_mem h
/-- what a good repair of a valid cable leaves -/
theorem pcs_good {n : Nat} {ls : List Sp} {q : Cb} {y : Nat} (hc : ckC n ls q = true) (hg : goodB q ls n y = true) (hn : n ≤ 8) : 1 ≤ (pcs y n).length ∧ (pcs y n).length ≤ 4 ∧ shk y n = (((pcs y n).length - 1 : Nat) : Int) ∧ 1 ≤ lfC y n ∧ lfC y n ≤ 8 := by
  have h1 := (pcs_few y n).1
  have h2 := lfC_le y n
  have h3 := (goodB_iff.1 hg).2.2.1
  rw [lfC_lef] at h3
  have h4 : 1 ≤ q.least := by
    simp only [ckC, Bool.and_eq_true, wi_true_q7] at hc
    omega
  have h5 := pcs_sum y n
  have h6 : 1 ≤ (pcs y n).length := by
    cases e : pcs y n
    · rw [e] at h5
      simp at h5
      omega
    · simp
  refine ⟨h6, by omega, ?_, by omega, by omega⟩
  unfold shk
  omega
theorem memN_le8 {y n : Nat} : (memN y n).length ≤ n := by
  unfold memN
  exact Nat.le_trans (List.length_filter_le _ _) (by simp)
theorem isR_mem8 (y n : Nat) : isR n (memN y n).length (ints (memN y n)) = true := by
  have hm : ∀ i ∈ memN y n, i < n := fun i hi => by simp [memN, List.mem_filter] at hi; exact hi.1
  have hp : (memN y n).Pairwise (· < ·) := List.Pairwise.filter _ List.pairwise_lt_range
  refine allN_iff.2 fun k hk => ?_
  unfold stO
  rw [Bool.and_eq_true, ints_at (List.getElem?_eq_getElem hk)]
  refine ⟨wi_true_q7.2 ?_, ?_⟩
  · have := hm _ (List.getElem_mem hk); omega
  · rw [Bool.not_eq_true', Bool.and_eq_false_iff]
    by_cases h0 : 0 < k
    · right
      rw [ints_at (List.getElem?_eq_getElem (show k - 1 < (memN y n).length by omega))]
      have := List.pairwise_iff_getElem.1 hp (k - 1) k (by omega) hk (by omega)
      simp; omega
    · left; simp; omega
theorem ofK_mem8 {y n : Nat} (hy : y < 2 ^ n) : ofK (ints (memN y n)) (memN y n).length = y := by
  have hr := isR_mem8 y n
  refine Nat.eq_of_testBit_eq fun i => ?_
  by_cases hi : i < n
  · rw [ofK_bit (fun j hj => (isR_nn hr j hj).1), mem_any, decide_eq_true hi, Bool.true_and]
  · rw [Nat.testBit_lt_two_pow (Nat.lt_of_lt_of_le (ofK_lt2 hr) (Nat.pow_le_pow_right (by omega) (by omega))), Nat.testBit_lt_two_pow (Nat.lt_of_lt_of_le hy (Nat.pow_le_pow_right (by omega) (by omega)))]
/-- what Plan gives for a cable that is valid -/
theorem plan_8 {n : Nat} {ls : List Sp} {q : Cb} (hc : ckC n ls q = true) : (erS_q7 n ls q = 3 ∧ plC n ls q = []) ∨ (erS_q7 n ls q = 0 ∧ ∃ y, plC n ls q = memN y n ∧ goodB q ls n y = true ∧ y < 2 ^ n) := by
  unfold erS_q7 plC
  rw [hc]
  cases h : shL q ls n with
  | nil => exact .inl ⟨rfl, rfl⟩
  | cons y r =>
    have := (shL_mem (by rw [h]; exact List.mem_cons_self ..)).1
    exact .inr ⟨rfl, y, rfl, this.2, this.1⟩
theorem gv_mem8 {n : Nat} {ls : List Sp} {q : Cb} {y : Nat} (hc : ckC n ls q = true) (hy : y < 2 ^ n) : gvS n (memN y n).length ls q (ints (memN y n)) = shk y n ∧ gvE n (memN y n).length ls q (ints (memN y n)) = 0 := by
  have h := gv_ok hc (isR_mem8 y n)
  have h2 : gvE n (memN y n).length ls q (ints (memN y n)) = 0 := by rw [gvE, h]
  refine ⟨?_, h2⟩
  rw [gvS, h2, h, ofK_mem8 hy]
  rfl
theorem pc_ok {ns : List Int} {k : Nat} {long shk : Int} (h0 : 0 ≤ shk ∧ shk ≤ 9) (h1 : 0 ≤ long ∧ long ≤ 999) (hl : ns.length = k) (hk : k ≤ 7) (hn : ∀ i, i < k → 1 ≤ iAt ns i ∧ iAt ns i ≤ 999) : Ok8 1 1 k [⟨0, 1, long⟩] [⟨5, 5⟩] (pcK ns) shk := by
  refine ⟨by omega, by omega, hk, h0, ?_, ?_, ?_, ?_⟩
  · intro i hi
    obtain rfl : i = 0 := by omega
    show (0 ≤ (0 : Int) ∧ (0 : Int) ≤ 9999) ∧ (1 ≤ (1 : Int) ∧ (1 : Int) ≤ 99) ∧ 0 ≤ long ∧ long ≤ 999
    omega
  · intro i hi
    omega
  · intro i hi
    obtain rfl : i = 0 := by omega
    decide
  · intro i hi
    rw [pcK_at (by omega)]
    have := hn i hi
    show (1 ≤ (1 : Int) ∧ (1 : Int) ≤ 99) ∧ 1 ≤ iAt ns i ∧ iAt ns i ≤ iAt ns i ∧ iAt ns i ≤ 999
    omega
/-- the numbers 0, 1 .. -/
def upN (k : Nat) : List Int := (List.range k).map fun i : Nat => (i : Int)
theorem upN_len {k : Nat} : (upN k).length = k := by simp [upN]
theorem upN_succ {k : Nat} : upN (k + 1) = upN k ++ [(k : Int)] := by unfold upN; rw [List.range_succ, List.map_append]; rfl
theorem upN_up {k : Nat} : (upN k).Pairwise (· < ·) := by
  unfold upN
  rw [List.pairwise_map]
  exact List.Pairwise.imp (fun {a b} h => by omega) (List.pairwise_lt_range (n := k))
theorem upN_mem {k : Nat} {x : Int} : x ∈ upN k ↔ fwA k x = true := by
  unfold upN fwA
  rw [List.mem_map, decide_eq_true_iff]
  constructor
  · rintro ⟨i, hi, rfl⟩
    have := List.mem_range.1 hi
    omega
  · rintro ⟨h1, h2⟩
    exact ⟨x.toNat, List.mem_range.2 (by omega), by omega⟩
theorem zer_us (K : Nat) : ∀ k, k ≤ K → usK (List.replicate K 0) k = k
  | 0, _ => rfl
  | k + 1, h => by
    show (if 0 ≤ iAt (List.replicate K 0) k then usK (List.replicate K 0) k + 1 else usK (List.replicate K 0) k) = k + 1
    rw [rep_at, if_pos (by omega), zer_us K k (by omega)]
theorem zer_succ {k : Nat} : List.replicate (k + 1) (0 : Int) = List.replicate k 0 ++ [0] := List.replicate_succ'
/-- the three rows that the loop makes: pieces, plan, all -/
structure PcM (base : Nat) (vp vq va : Value) (kp kq ka : Nat) (ps : List Sp) (qs us : List Int) (W : World) : Prop where
  p : W.ownsRow base 34 2 vp kp (ps.flatMap encS)
  q : W.ownsRow base 3 1 vq kq (qs.flatMap encI)
  a : W.ownsRow base 3 1 va ka (us.flatMap encI)
  pl : ps.length = kp
  ql : qs.length = kq
  al : us.length = ka
  pq : ∀ k, vp.ownBlock = some k → vq.ownBlock ≠ some k
  pa : ∀ k, vp.ownBlock = some k → va.ownBlock ≠ some k
  qa : ∀ k, vq.ownBlock = some k → va.ownBlock ≠ some k
section
variable {base : Nat} {vp vq va v' : Value} {kp kq ka : Nat} {ps : List Sp} {qs us : List Int} {W W' : World} {o : Obj}
theorem PcM.nil (W : World) (base : Nat) : PcM base (.slice none 0 0) (.slice none 0 0) (.slice none 0 0) 0 0 0 [] [] [] W :=
  ⟨World.ownsRow_nil W base _ 2, World.ownsRow_nil W base _ 1, World.ownsRow_nil W base _ 1, rfl, rfl, rfl, fun _ h => (by cases h), fun _ h => (by cases h), fun _ h => (by cases h)⟩
theorem PcM.later (h : PcM base vp vq va kp kq ka ps qs us W) (hb : Below W.heap.size W W') : PcM base vp vq va kp kq ka ps qs us W' :=
  ⟨own_below h.p hb, own_below h.q hb, own_below h.a hb, h.pl, h.ql, h.al, h.pq, h.pa, h.qa⟩
theorem own_other8 {e : TypeId} {size n : Nat} {v v1 : Value} {xs : List Value} (h : W.ownsRow base e size v n xs) (hd : v1.ownBlock = v.ownBlock → v.ownBlock = none) (hg : (W.alloc o).grownBy W' v1.ownBlock) (ha : v'.ownBlock = v1.ownBlock ∨ v'.ownBlock = some (W.alloc o).heap.size) : W'.ownsRow base e size v n xs ∧ (v'.ownBlock = v.ownBlock → v.ownBlock = none) := by
  refine ⟨own_kept (own_below h ((Below.refl _ _).alloc (Nat.le_refl _) o)) hg fun k hk e => ?_, fun e => ?_⟩
  · have := hd (e.trans hk.symm)
    rw [this] at hk
    cases hk
  · rcases ha with ha | ha
    · exact hd (ha.symm.trans e)
    · have h2 := (h.lt _ (e.symm.trans ha)).2
      simp at h2
      omega
theorem own_ne {a b : Option Nat} : (a = b → b = none) ↔ ∀ k, a = some k → b ≠ some k := by
  constructor
  · intro h k h1 h2
    have := h (h1.trans h2.symm)
    rw [this] at h2
    cases h2
  · intro h e
    cases hb : b with
    | none => rfl
    | some k => exact absurd hb (h k (e.trans hb))
theorem own_ne' {a b : Option Nat} (h : ∀ k, a = some k → b ≠ some k) : ∀ k, b = some k → a ≠ some k := fun k h1 h2 => h k h2 h1
theorem PcM.pushP (h : PcM base vp vq va kp kq ka ps qs us W) {s : Sp} (ho : W'.ownsRow base 34 2 v' (kp + 1) ((ps ++ [s]).flatMap encS)) (hg : (W.alloc o).grownBy W' vp.ownBlock) (ha : v'.ownBlock = vp.ownBlock ∨ v'.ownBlock = some (W.alloc o).heap.size) : PcM base v' vq va (kp + 1) kq ka (ps ++ [s]) qs us W' := by
  have h1 := own_other8 h.q (own_ne.2 h.pq) hg ha
  have h2 := own_other8 h.a (own_ne.2 h.pa) hg ha
  exact ⟨ho, h1.1, h2.1, by rw [List.length_append, h.pl, List.length_singleton], h.ql, h.al, own_ne.1 h1.2, own_ne.1 h2.2, h.qa⟩
theorem PcM.pushQ (h : PcM base vp vq va kp kq ka ps qs us W) {s : Int} (ho : W'.ownsRow base 3 1 v' (kq + 1) ((qs ++ [s]).flatMap encI)) (hg : (W.alloc o).grownBy W' vq.ownBlock) (ha : v'.ownBlock = vq.ownBlock ∨ v'.ownBlock = some (W.alloc o).heap.size) : PcM base vp v' va kp (kq + 1) ka ps (qs ++ [s]) us W' := by
  have h1 := own_other8 h.p (own_ne.2 (own_ne' h.pq)) hg ha
  have h2 := own_other8 h.a (own_ne.2 h.qa) hg ha
  exact ⟨h1.1, ho, h2.1, h.pl, by rw [List.length_append, h.ql, List.length_singleton], h.al, own_ne' (own_ne.1 h1.2), h.pa, own_ne.1 h2.2⟩
theorem PcM.pushA (h : PcM base vp vq va kp kq ka ps qs us W) {s : Int} (ho : W'.ownsRow base 3 1 v' (ka + 1) ((us ++ [s]).flatMap encI)) (hg : (W.alloc o).grownBy W' va.ownBlock) (ha : v'.ownBlock = va.ownBlock ∨ v'.ownBlock = some (W.alloc o).heap.size) : PcM base vp vq v' kp kq (ka + 1) ps qs (us ++ [s]) W' := by
  have h1 := own_other8 h.p (own_ne.2 (own_ne' h.pa)) hg ha
  have h2 := own_other8 h.q (own_ne.2 (own_ne' h.qa)) hg ha
  exact ⟨h1.1, h2.1, ho, h.pl, h.ql, by rw [List.length_append, h.al, List.length_singleton], h.pq, own_ne' (own_ne.1 h1.2), own_ne' (own_ne.1 h2.2)⟩
/-- the last piece is one link longer -/
theorem PcM.set {g c : Nat} (h : PcM base (.slice (some ⟨g, 0, none⟩) kp c) vq va kp kq ka ps qs us W) {i : Nat} (hi : i < kp) {v : Int} (hv : ps.getD i ⟨0, 0⟩ = ⟨v, v⟩) : PcM base (.slice (some ⟨g, 0, none⟩) kp c) vq va kp kq ka (ps.set i ⟨v + 1, v + 1⟩) qs us ((W.setCell ⟨g, i * 2 + 0, none⟩ (.int .i64 (v + 1))).setCell ⟨g, i * 2 + 1, none⟩ (.int .i64 (v + 1))) := by
  have hl := h.pl
  refine ⟨?_, own_set (own_set h.q ?_) ?_, own_set (own_set h.a ?_) ?_, by rw [List.length_set]; exact h.pl, h.ql, h.al, h.pq, h.pa, h.qa⟩
  · have e1 := flat_set encS_len ps i 0 ⟨v + 1, v⟩ ⟨0, 0⟩ (.int .i64 (v + 1)) (by omega) (by omega) (by rw [hv]; rfl)
    have e2 := flat_set encS_len (ps.set i ⟨v + 1, v⟩) i 1 ⟨v + 1, v + 1⟩ ⟨0, 0⟩ (.int .i64 (v + 1)) (by rw [List.length_set]; omega) (by omega) (by rw [List.getD_eq_getElem?_getD, List.getElem?_set_self (by omega)]; rfl)
    rw [List.set_set] at e2
    have o1 := (h.p.stored (i * 2 + 0) (.int .i64 (v + 1))).1
    rw [e1] at o1
    have o2 := (o1.stored (i * 2 + 1) (.int .i64 (v + 1))).1
    rw [e2] at o2
    exact o2
  · intro k hk e
    exact h.pq g rfl (by rw [hk, e])
  · intro k hk e
    exact h.pq g rfl (by rw [hk, e])
  · intro k hk e
    exact h.pa g rfl (by rw [hk, e])
  · intro k hk e
    exact h.pa g rfl (by rw [hk, e])
theorem PcM.cells {g c : Nat} (h : PcM base (.slice (some ⟨g, 0, none⟩) kp c) vq va kp kq ka ps qs us W) {i : Nat} (hi : i < kp) {v : Int} (hv : ps.getD i ⟨0, 0⟩ = ⟨v, v⟩) :
    W.cell? ⟨g, i * 2, none⟩ = some (.int .i64 v) ∧ W.cell? ⟨g, i * 2 + 1, none⟩ = some (.int .i64 v) ∧ W.frozen? ⟨g, i * 2, none⟩ = false ∧ W.frozen? ⟨g, i * 2 + 1, none⟩ = false ∧ g < W.heap.size := by
  have hl := h.pl
  have c0 := h.p.cellAt (i * 2 + 0) (by omega)
  have c1 := h.p.cellAt (i * 2 + 1) (by omega)
  rw [flat_get (d := (⟨0, 0⟩ : Sp)) encS_len ps i 0 (by omega) (by omega), hv] at c0
  rw [flat_get (d := (⟨0, 0⟩ : Sp)) encS_len ps i 1 (by omega) (by omega), hv] at c1
  exact ⟨c0, c1, h.p.frozenAt _, h.p.frozenAt _, (h.p.lt g rfl).2⟩
theorem PcM.drew (h : PcM base vp vq va kp kq ka ps qs us W) : PcM base vp vq va kp kq ka ps qs us W.drew := ⟨h.p, h.q, h.a, h.pl, h.ql, h.al, h.pq, h.pa, h.qa⟩
end

end Go.Proofs.YtcbeiadimchknaaGreat
