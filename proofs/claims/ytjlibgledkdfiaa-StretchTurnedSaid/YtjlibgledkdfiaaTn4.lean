/- Before and after exchanged, and readings in another order, in plain terms (layer 4). -/
import Derived.Test.YtjlibgledkdfiaaAk4
import Derived.Test.YtjlibgledkdfiaaWd4
namespace Go.Proofs.Ytjlibgledkdfiaa
open Go.RowKit
open Go.Sort (grow)
set_option linter.unusedVariables false

/-- before and after exchanged in a reading -/
def tuE (x : Re4) : Re4 := ⟨3 - x.wh, x.rd, x.ct, x.rs, x.of, x.lo, x.hi⟩
def tuP (p : P4) : P4 := ⟨p.ir, p.glo, p.ghi, p.wr, p.rods, p.res.map tuE⟩
/-- the first k readings out of another place -/
def rtK (l : List Re4) (by' k : Nat) : List Re4 := (List.range l.length).map fun i => if i < k then reAt l ((i + by') % l.length) else reAt l i
def rtP (p : P4) (by' : Nat) : P4 := ⟨p.ir, p.glo, p.ghi, p.wr, p.rods, rtK p.res by' p.res.length⟩
theorem rtK_len (l : List Re4) (by' k : Nat) : (rtK l by' k).length = l.length := by simp [rtK]
theorem rtK_get {l : List Re4} {by' k i : Nat} (h : i < l.length) : reAt (rtK l by' k) i = if i < k then reAt l ((i + by') % l.length) else reAt l i := by
  unfold rtK
  show ((List.range l.length).map _).getD i _ = _
  rw [List.getD_eq_getElem?_getD, List.getElem?_map, List.getElem?_range h]; rfl
theorem re_ext {l m : List Re4} (h : l.length = m.length) (hh : ∀ i, i < l.length → reAt l i = reAt m i) : l = m := by
  apply List.ext_getElem h
  intro i h1 h2
  have := hh i h1
  unfold reAt at this
  rw [List.getD_eq_getElem?_getD, List.getD_eq_getElem?_getD, List.getElem?_eq_getElem h1, List.getElem?_eq_getElem h2] at this
  exact this
theorem rtK_zero (l : List Re4) (by' : Nat) : rtK l by' 0 = l := re_ext (rtK_len _ _ _) fun i hi => by
  rw [rtK_get (by rwa [rtK_len] at hi), if_neg (by omega)]
theorem rtK_set {l : List Re4} {by' k : Nat} (h : k < l.length) : (rtK l by' k).set k (reAt l ((k + by') % l.length)) = rtK l by' (k + 1) := re_ext (by rw [List.length_set, rtK_len, rtK_len]) fun i hi => by
  rw [List.length_set, rtK_len] at hi
  rw [reAt_set (by rw [rtK_len]; exact h), rtK_get hi, rtK_get hi]
  by_cases e : i = k
  · subst e; rw [if_pos rfl, if_pos (by omega)]
  · rw [if_neg e]
    by_cases e2 : i < k
    · rw [if_pos e2, if_pos (by omega)]
    · rw [if_neg e2, if_neg (by omega)]
theorem tuE_at {l : List Re4} {k : Nat} (h : k < l.length) : reAt (l.map tuE) k = tuE (reAt l k) := by
  unfold reAt
  rw [List.getD_eq_getElem?_getD, List.getD_eq_getElem?_getD, List.getElem?_map, List.getElem?_eq_getElem h]; rfl
section
variable {p : P4}
/-- what is ready is so still where all readings stay as they are -/
theorem ready_of {q : P4} (h : ready4 p = true) (e1 : q.ir = p.ir) (e2 : q.glo = p.glo) (e3 : q.ghi = p.ghi) (e4 : q.wr = p.wr) (e5 : q.rods = p.rods) (e6 : q.res.length = p.res.length) (hx : ∀ x ∈ q.res, (∃ y ∈ p.res, wide4 x = wide4 y ∧ (ckRe4 p.rods.length y = true → ckRe4 p.rods.length x = true))) : ready4 q = true := by
  have hck : ck4 q = true := by
    have hc := (ready4_iff h).ck
    unfold ck4 at hc ⊢
    rw [e1, e2, e3, e4, e5, e6]
    simp only [Bool.and_eq_true, List.all_eq_true] at hc ⊢
    refine ⟨hc.1, fun x hx' => ?_⟩
    obtain ⟨y, hy, -, hk⟩ := hx x hx'
    exact hk (hc.2 y hy)
  have hwd : q.res.any wide4 = true → p.res.any wide4 = true := fun hq => by
    rw [List.any_eq_true] at hq ⊢
    obtain ⟨x, hx', hw⟩ := hq
    obtain ⟨y, hy, e, -⟩ := hx x hx'
    exact ⟨y, hy, by rw [← e]; exact hw⟩
  have hc := (ready4_iff h).ck
  unfold ready4 far4 at h ⊢
  rw [hck]
  rw [hc] at h
  rw [e2, e3, e5, e6]
  cases hb : q.res.any wide4
  · simp only [Bool.true_and, Bool.false_or, Bool.and_true] at h ⊢
    cases hb2 : p.res.any wide4
    · rw [hb2, Bool.false_or] at h
      exact h
    · rw [hb2] at h
      simp at h
  · rw [hwd hb] at h
    exact h
theorem ready_tu (h : ready4 p = true) : ready4 (tuP p) = true := by
  refine ready_of h rfl rfl rfl rfl rfl (by simp [tuP]) fun x hx => ?_
  obtain ⟨y, hy, rfl⟩ := List.mem_map.1 hx
  refine ⟨y, hy, rfl, fun hk => ?_⟩
  unfold ckRe4 at hk ⊢
  simp only [Bool.and_eq_true, Bool.or_eq_true, decide_eq_true_eq] at hk ⊢
  obtain ⟨⟨⟨⟨⟨⟨k1, k2⟩, k3⟩, k4⟩, k5⟩, k6⟩, k7⟩ := hk
  exact ⟨⟨⟨⟨⟨⟨by simp only [tuE]; omega, k2⟩, k3⟩, k4⟩, k5⟩, k6⟩, k7⟩
theorem ready_rt (h : ready4 p = true) (by' : Nat) : ready4 (rtP p by') = true := by
  refine ready_of h rfl rfl rfl rfl rfl (rtK_len _ _ _) fun x hx => ?_
  have hx : x ∈ rtK p.res by' p.res.length := hx
  unfold rtK at hx
  obtain ⟨i, hi, rfl⟩ := List.mem_map.1 hx
  have hi := List.mem_range.1 hi
  rw [if_pos hi]
  exact ⟨_, reAt_mem (Nat.mod_lt _ (by omega)), rfl, fun hk => hk⟩
/-- the wrong readings of the other time -/
theorem tu_wk (wh : Int) (u : W4) (l : Int) : ∀ k, k ≤ p.res.length → wk4 (tuP p) wh u l k = wk4 p (3 - wh) u l k
  | 0, _ => rfl
  | k + 1, hk => by
    have e : reAt (tuP p).res k = tuE (reAt p.res k) := tuE_at (by omega)
    rw [wk4_succ, wk4_succ, tu_wk wh u l k (by omega)]
    have e2 : rg4 (tuP p) u l k = rg4 p u l k := by
      unfold rg4
      rw [e, show (tuP p).ir = p.ir from rfl, show (tuP p).rods = p.rods from rfl]
      rfl
    have e3 : decide ((reAt (tuP p).res k).wh = wh) = decide ((reAt p.res k).wh = 3 - wh) := by
      refine decide_eq_decide.2 ?_
      rw [e]
      simp only [tuE]
      omega
    rw [e2, e3]
theorem tu_wr (wh : Int) (u : W4) (l : Int) : wr4 (tuP p) wh u l = wr4 p (3 - wh) u l := by
  unfold wr4
  rw [show (tuP p).res.length = p.res.length by simp [tuP]]
  exact tu_wk wh u l _ (Nat.le_refl _)
theorem tu_tr {u : W4} {b a : Int} : Tr4 (tuP p) u b a ↔ Tr4 p u a b := by
  unfold Tr4
  rw [tu_wr, tu_wr, show ws4 (tuP p) = ws4 p from rfl, show ln4 (tuP p) = ln4 p from rfl, show (tuP p).wr = p.wr from rfl, show (3 : Int) - 1 = 2 from rfl, show (3 : Int) - 2 = 1 from rfl, Nat.add_comm]
  exact ⟨fun ⟨a, b, c, d⟩ => ⟨a, c, b, d⟩, fun ⟨a, b, c, d⟩ => ⟨a, c, b, d⟩⟩
theorem tu_op (h : ck4 p = true) (h' : ck4 (tuP p) = true) : op4 (tuP p) true = op4 p true := by
  rcases op4_or h with e | ⟨e, ht⟩
  · rw [e, op4_truth h']
    obtain ⟨u, b, a, ht⟩ := (op4_truth h).1 e
    exact ⟨u, a, b, tu_tr.2 ht⟩
  · rcases op4_or h' with e' | ⟨e', -⟩
    · obtain ⟨u, b, a, ht'⟩ := (op4_truth h').1 e'
      exact absurd ht (tr4_ne (tu_tr.1 ht'))
    · rw [e, e']
theorem tu_mn (h : p.rods.length ≤ 4) : mn4 (tr4 (tuP p)) (tr4 (tuP p)).length = mn4 (tr4 p) (tr4 p).length := by
  rw [mn4_trl (p := tuP p) h, mn4_trl h]
  have sw : ∀ {q q' : P4}, q.rods.length ≤ 4 → (∀ u b a, Tr4 q u b a → Tr4 q' u a b) → (trl4 q).length ≤ (trl4 q').length := fun {q q'} hq hs => by
    have h1 := nodup_map4 (f := fun t : Int × Int × W4 => (t.2.1, t.1, t.2.2)) (trl4_nodup hq) (fun x _ y _ e => by
      obtain ⟨x1, x2, x3⟩ := x
      obtain ⟨y1, y2, y3⟩ := y
      simp only [Prod.mk.injEq] at e
      obtain ⟨rfl, rfl, rfl⟩ := e
      rfl)
    have h2 := nodup_le4 _ (trl4 q') h1 fun t ht => by
      obtain ⟨s, hs', rfl⟩ := List.mem_map.1 ht
      exact mem_trl4.2 (hs _ _ _ (mem_trl4.1 hs'))
    rwa [List.length_map] at h2
  exact Nat.le_antisymm (sw (q := tuP p) h fun u b a ht => tu_tr.1 ht) (sw h fun u b a ht => tu_tr.2 ht)
theorem few4_hit {p : P4} (hc : ck4 p = true) : few4 p = (p.res.length : Nat) ∨ ∃ u b a, u ∈ ws4 p ∧ b ∈ ln4 p ∧ a ∈ ln4 p ∧ few4 p = ((wr4 p 1 u b + wr4 p 2 u a : Nat) : Int) := by
  unfold few4
  rw [hc]
  simp only [cond_true]
  rcases fwk4_hit (n := p.res.length) (l := bs4 p) (k := (bs4 p).length) (Nat.le_refl _) with e | ⟨x, hx, e⟩
  · exact .inl (by rw [e])
  · obtain ⟨h1, h2, h3⟩ := mem_bs4.1 hx
    obtain ⟨⟨l1, m1, e1⟩, -⟩ := mem_gr4.1 h2
    obtain ⟨⟨l2, m2, e2⟩, -⟩ := mem_gr4.1 h3
    exact .inr ⟨x.u, l1, l2, h1, m1, m2, by rw [e, e1, e2]⟩
theorem few4_top {p : P4} (hc : ck4 p = true) : few4 p ≤ (p.res.length : Nat) := by
  unfold few4
  rw [hc]
  have := fwk4_le (n := p.res.length) (l := bs4 p) (k := (bs4 p).length) (Nat.le_refl _)
  simp only [cond_true]
  omega
theorem tu_few (h : ck4 p = true) (h' : ck4 (tuP p) = true) : few4 (tuP p) = few4 p := by
  have hl : (tuP p).res.length = p.res.length := by simp [tuP]
  refine Int.le_antisymm ?_ ?_
  · rcases few4_hit h with e | ⟨u, b, a, hu, hb, ha, e⟩
    · rw [e, ← hl]; exact few4_top h'
    · rw [e]
      have := (few4_le (nr := 0) (nd := 0) h' (u := u) (b := a) (a := b) hu ha hb).2
      rw [tu_wr, tu_wr, show (3 : Int) - 1 = 2 from rfl, show (3 : Int) - 2 = 1 from rfl] at this
      omega
  · rcases few4_hit h' with e | ⟨u, b, a, hu, hb, ha, e⟩
    · rw [e, hl]; exact few4_top h
    · rw [e]
      have := (few4_le (nr := 0) (nd := 0) h (u := u) (b := a) (a := b) hu ha hb).2
      rw [tu_wr, tu_wr, show (3 : Int) - 1 = 2 from rfl, show (3 : Int) - 2 = 1 from rfl]
      omega
theorem tu_lg : lg4 (tuP p) (tr4 (tuP p)) 2 = lg4 p (tr4 p) 1 := by
  refine pair_ext4 lg4_pair lg4_pair fun n => ?_
  rw [mem_lg4, mem_lg4]
  constructor
  · rintro ⟨u, b, a, ht, e⟩
    exact ⟨u, a, b, tu_tr.1 ht, e⟩
  · rintro ⟨u, b, a, ht, e⟩
    exact ⟨u, a, b, tu_tr.2 ht, e⟩
theorem tu_rl (q : Nat) : rl4 (tr4 (tuP p)) q = rl4 (tr4 p) q := by
  refine pair_ext4 rl4_pair rl4_pair fun n => ?_
  rw [mem_rl4, mem_rl4]
  constructor
  · rintro ⟨h0, u, b, a, ht, e⟩
    exact ⟨h0, u, a, b, tu_tr.1 ht, e⟩
  · rintro ⟨h0, u, b, a, ht, e⟩
    exact ⟨h0, u, a, b, tu_tr.2 ht, e⟩
theorem op4_is {p : P4} {is : Bool} (h : ck4 p = true) : op4 p is = bif is then op4 p true else 1 := by
  unfold op4
  rw [h]
  cases is <;> rfl
theorem tu_rds (h : ck4 p = true) (h' : ck4 (tuP p) = true) (rod : Int) : rds4 (tuP p) rod = rds4 p rod ∧ op4 (tuP p) (wn rod 0 (((tuP p).rods.length : Int) - 1)) = op4 p (wn rod 0 ((p.rods.length : Int) - 1)) := by
  have e : op4 (tuP p) (wn rod 0 (((tuP p).rods.length : Int) - 1)) = op4 p (wn rod 0 ((p.rods.length : Int) - 1)) := by
    rw [op4_is h, op4_is h', tu_op h h']
    rfl
  refine ⟨?_, e⟩
  unfold rds4
  rw [e, tu_rl]
theorem tu_en (h : tr4 p ≠ []) (h' : tr4 (tuP p) ≠ []) : (en4 (tr4 (tuP p)) (tr4 (tuP p)).length).lo = -(en4 (tr4 p) (tr4 p).length).hi ∧ (en4 (tr4 (tuP p)) (tr4 (tuP p)).length).hi = -(en4 (tr4 p) (tr4 p).length).lo := by
  obtain ⟨⟨u1, b1, a1, t1, e1⟩, ⟨u2, b2, a2, t2, e2⟩⟩ := en4_hit h
  obtain ⟨⟨u3, b3, a3, t3, e3⟩, ⟨u4, b4, a4, t4, e4⟩⟩ := en4_hit h'
  have f1 := en4_truth (tu_tr.2 t1)
  have f2 := en4_truth (tu_tr.2 t2)
  have f3 := en4_truth (tu_tr.1 t3)
  have f4 := en4_truth (tu_tr.1 t4)
  omega
end
/-- counting over places that are turned round -/
theorem rot_count (n by' : Nat) (f : Nat → Bool) : ((List.range n).filter fun i => f ((i + by') % n)).length ≤ ((List.range n).filter f).length := by
  by_cases h0 : n = 0
  · subst h0; simp
  have h1 := nodup_map4 (f := fun i => (i + by') % n) (l := (List.range n).filter fun i => f ((i + by') % n)) (List.nodup_range.filter _) (fun x hx y hy e => by
    have hx := List.mem_range.1 (List.mem_filter.1 hx).1
    have hy := List.mem_range.1 (List.mem_filter.1 hy).1
    have e1 := Nat.div_add_mod (x + by') n
    have e2 := Nat.div_add_mod (y + by') n
    rw [e] at e1
    have e3 : n * ((x + by') / n) + y = n * ((y + by') / n) + x := by omega
    rcases Nat.lt_trichotomy ((x + by') / n) ((y + by') / n) with h | h | h
    · have := Nat.mul_le_mul_left n (show (x + by') / n + 1 ≤ (y + by') / n from h)
      rw [Nat.mul_add] at this
      omega
    · rw [h] at e3; omega
    · have := Nat.mul_le_mul_left n (show (y + by') / n + 1 ≤ (x + by') / n from h)
      rw [Nat.mul_add] at this
      omega)
  have h2 := nodup_le4 _ ((List.range n).filter f) h1 fun t ht => by
    obtain ⟨i, hi, rfl⟩ := List.mem_map.1 ht
    obtain ⟨hi1, hi2⟩ := List.mem_filter.1 hi
    exact List.mem_filter.2 ⟨List.mem_range.2 (Nat.mod_lt _ (by omega)), hi2⟩
  rwa [List.length_map] at h2
theorem cnt_split (n : Nat) (f : Nat → Bool) : ((List.range n).filter f).length + ((List.range n).filter fun i => !f i).length = n := by
  induction n with
  | zero => rfl
  | succ n ih =>
    rw [List.range_succ, List.filter_append, List.filter_append, List.length_append, List.length_append]
    cases h : f n <;> simp [h] <;> omega
theorem rot_eq (n by' : Nat) (f : Nat → Bool) : ((List.range n).filter fun i => f ((i + by') % n)).length = ((List.range n).filter f).length := by
  have h1 := rot_count n by' f
  have h2 := rot_count n by' (fun i => !f i)
  have h3 := cnt_split n f
  have h4 := cnt_split n (fun i => f ((i + by') % n))
  omega
theorem rt_same (p : P4) (by' : Nat) : Same4 p (rtP p by') := by
  refine ⟨rfl, rfl, rfl, (rtK_len _ _ _).symm, fun wh u l => ?_⟩
  unfold wr4 wk4
  rw [show (rtP p by').res.length = p.res.length from rtK_len _ _ _]
  rw [← rot_eq p.res.length by' (fun j => decide ((reAt p.res j).wh = wh) && !rg4 p u l j)]
  congr 1
  refine List.filter_congr fun j hj => ?_
  have hj := List.mem_range.1 hj
  have e : reAt (rtP p by').res j = reAt p.res ((j + by') % p.res.length) := by
    rw [show (rtP p by').res = rtK p.res by' p.res.length from rfl, rtK_get hj, if_pos hj]
  unfold rg4
  rw [e]
  rfl

end Go.Proofs.Ytjlibgledkdfiaa
