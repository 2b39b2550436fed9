/- A store whose truths are all truths of another one, in plain terms (layer 1); Fits of bars (layer 1), with slices.Equal and slices.ContainsFunc. -/
import Derived.Test.YtdhlnlmhdacblaaTs17
import Derived.Test.YtdhlnlmhdacblaaTs15
import Derived.BigRegionIn
import Derived.Shelf.RegionOpen
import Derived.Handy
import Derived.Test.YtdhlnlmhdacblaaTs12
import Derived.Test.YtdhlnlmhdacblaaTs13
namespace Go.Proofs.Ytdhlnlmhdacblaa
open Go.RowKit
open Go.Sort (grow)
set_option linter.unusedVariables false
set_option linter.unusedSimpArgs false

theorem spF_fold : ∀ (L : List Int) (o : Sp), (L.foldl spF o).lo ≤ o.lo ∧ o.hi ≤ (L.foldl spF o).hi ∧ (∀ x ∈ L, (L.foldl spF o).lo ≤ x ∧ x ≤ (L.foldl spF o).hi) ∧
    ((L.foldl spF o).lo = o.lo ∨ (L.foldl spF o).lo ∈ L) ∧ ((L.foldl spF o).hi = o.hi ∨ (L.foldl spF o).hi ∈ L)
  | [], o => ⟨Int.le_refl _, Int.le_refl _, fun x hx => (by cases hx), .inl rfl, .inl rfl⟩
  | z :: L, o => by
    obtain ⟨h1, h2, h3, h4, h5⟩ := spF_fold L (spF o z)
    have a1 : (spF o z).lo ≤ o.lo ∧ (spF o z).lo ≤ z ∧ ((spF o z).lo = o.lo ∨ (spF o z).lo = z) := by
      unfold spF mn2; simp only; split <;> omega
    have a2 : o.hi ≤ (spF o z).hi ∧ z ≤ (spF o z).hi ∧ ((spF o z).hi = o.hi ∨ (spF o z).hi = z) := by
      unfold spF mx2; simp only; split <;> omega
    simp only [List.foldl_cons]
    refine ⟨by omega, by omega, fun x hx => ?_, ?_, ?_⟩
    · rcases List.mem_cons.1 hx with rfl | hx
      · omega
      · exact h3 x hx
    · rcases h4 with h4 | h4
      · rcases a1.2.2 with e | e
        · exact .inl (by rw [h4, e])
        · exact .inr (by rw [h4, e]; simp)
      · exact .inr (by simp [h4])
    · rcases h5 with h5 | h5
      · rcases a2.2.2 with e | e
        · exact .inl (by rw [h5, e])
        · exact .inr (by rw [h5, e]; simp)
      · exact .inr (by simp [h5])
/-- values between 0 and 999: the least and the greatest -/
theorem spF_mem {L : List Int} (hne : L ≠ []) (h : ∀ x ∈ L, 0 ≤ x ∧ x ≤ 999) :
    (L.foldl spF ⟨999, 0⟩).lo ∈ L ∧ (L.foldl spF ⟨999, 0⟩).hi ∈ L ∧ ∀ x ∈ L, (L.foldl spF ⟨999, 0⟩).lo ≤ x ∧ x ≤ (L.foldl spF ⟨999, 0⟩).hi := by
  obtain ⟨h1, h2, h3, h4, h5⟩ := spF_fold L ⟨999, 0⟩
  obtain ⟨z, hz⟩ := List.exists_mem_of_ne_nil L hne
  have hz1 := h z hz
  have hz2 := h3 z hz
  refine ⟨?_, ?_, h3⟩
  · rcases h4 with h4 | h4
    · have h4 : (L.foldl spF ⟨999, 0⟩).lo = 999 := h4
      rw [show (L.foldl spF ⟨999, 0⟩).lo = z by omega]; exact hz
    · exact h4
  · rcases h5 with h5 | h5
    · have h5 : (L.foldl spF ⟨999, 0⟩).hi = 0 := h5
      rw [show (L.foldl spF ⟨999, 0⟩).hi = z by omega]; exact hz
    · exact h5
theorem knP_vals {α : Type} {p : α → Bool} {L : List α} (hne : L ≠ []) :
    (knP p L = 1 ∧ ∀ x ∈ L, p x = true) ∨ (knP p L = 2 ∧ ∀ x ∈ L, p x = false) ∨ (knP p L = 3 ∧ (∃ x ∈ L, p x = true) ∧ ∃ x ∈ L, p x = false) := by
  unfold knP
  cases e1 : ((L.countP fun x => !p x) == 0)
  · have h1 : 0 < L.countP fun x => !p x := Nat.pos_of_ne_zero (by simpa only [beq_eq_false_iff_ne, ne_eq] using e1)
    rw [List.countP_pos_iff] at h1
    obtain ⟨u, hu, hu'⟩ := h1
    cases e2 : (L.countP p == 0)
    · have h2 : 0 < L.countP p := Nat.pos_of_ne_zero (by simpa only [beq_eq_false_iff_ne, ne_eq] using e2)
      rw [List.countP_pos_iff] at h2
      exact .inr (.inr ⟨rfl, h2, u, hu, by simpa using hu'⟩)
    · have h2 : L.countP p = 0 := by simpa only [beq_iff_eq] using e2
      rw [List.countP_eq_zero] at h2
      exact .inr (.inl ⟨rfl, fun x hx => by simpa using h2 x hx⟩)
  · have h1 : (L.countP fun x => !p x) = 0 := by simpa only [beq_iff_eq] using e1
    rw [List.countP_eq_zero] at h1
    exact .inl ⟨rfl, fun x hx => by simpa using h1 x hx⟩
theorem knP_sub {α : Type} {p : α → Bool} {L M : List α} (hne : L ≠ []) (hs : ∀ x ∈ L, x ∈ M) (h3 : knP p M ≠ 3) : knP p L = knP p M := by
  obtain ⟨x, hx⟩ := List.exists_mem_of_ne_nil L hne
  have hm : M ≠ [] := fun e => by have := hs x hx; rw [e] at this; cases this
  rcases knP_vals (p := p) hm with ⟨e, h⟩ | ⟨e, h⟩ | ⟨e, -⟩
  · rcases knP_vals (p := p) hne with ⟨e', -⟩ | ⟨-, h'⟩ | ⟨-, -, u, hu, hu'⟩
    · rw [e, e']
    · have a := h' x hx
      rw [h x (hs x hx)] at a
      cases a
    · rw [h u (hs u hu)] at hu'
      cases hu'
  · rcases knP_vals (p := p) hne with ⟨-, h'⟩ | ⟨e', -⟩ | ⟨-, ⟨u, hu, hu'⟩, -⟩
    · have a := h' x hx
      rw [h x (hs x hx)] at a
      cases a
    · rw [e, e']
    · rw [h u (hs u hu)] at hu'
      cases hu'
  · exact absurd e h3
/-- all truths of the one are truths of the other; the same bars, the same lengths -/
structure Ins (bs : List Br) (ps : List Pc) (kf wr : Int) (ps' : List Pc) (wr' : Int) : Prop where
  pl : ps'.length = ps.length
  long : ∀ k, k < ps.length → (pcAt ps' k).long = (pcAt ps k).long
  mem : ∀ l, l ∈ trL bs ps kf wr → l ∈ trL bs ps' kf wr'
section
variable {bs : List Br} {ps ps' : List Pc} {kf wr wr' : Int} {l : List Nat} {a b c : Nat}
theorem Ins.rest (H : Ins bs ps kf wr ps' wr') : rsB bs ps' kf l b = rsB bs ps kf l b := by
  have h1 := smB_mono (b := b) ps ps' l H.pl (fun k hk => Int.le_of_eq (H.long k hk))
  have h2 := smB_mono (b := b) ps' ps l H.pl.symm (fun k hk => Int.le_of_eq (H.long k (by rw [← H.pl]; exact hk)).symm)
  unfold rsB
  omega
theorem Ins.ne (H : Ins bs ps kf wr ps' wr') (h : trL bs ps kf wr ≠ []) : trL bs ps' kf wr' ≠ [] := fun e => by
  obtain ⟨x, hx⟩ := List.exists_mem_of_ne_nil _ h
  have := H.mem x hx
  rw [e] at this
  cases this
theorem Ins.many (H : Ins bs ps kf wr ps' wr') (h : ckS bs ps kf wr = true) (h' : ckS bs ps' kf wr' = true) (hne : trL bs ps kf wr ≠ []) : 1 ≤ manyR bs ps kf wr ∧ manyR bs ps kf wr ≤ manyR bs ps' kf wr' := by
  rw [manyR_ok h, manyR_ok h']
  have h1 := List.length_pos_iff.2 hne
  have h2 := nodup_le (trL bs ps kf wr) (trL bs ps' kf wr') (trL_nodup _ _ _ _) H.mem
  omega
theorem rs_bd (h : ckS bs ps kf wr = true) (hl : l ∈ trL bs ps kf wr) (hb : b < bs.length) : 0 ≤ rsB bs ps kf l b ∧ rsB bs ps kf l b ≤ 999 := by
  obtain ⟨-, -, h4, h5, h6, h7⟩ := ckS_vals h
  refine ⟨(okB_iff.1 (trL_mem.1 hl).2).1 b hb, ?_⟩
  have h1 := (h6 b hb).2
  have h2 : ∀ (qs : List Pc) (m : List Nat), (∀ q ∈ qs, 0 ≤ q.long) → 0 ≤ smB qs m b := by
    intro qs
    induction qs with
    | nil => intro m _; simp [smB]
    | cons q qs ih =>
      intro m hq
      cases m with
      | nil => simp [smB]
      | cons d m =>
        have := ih m (fun x hx => hq x (by simp [hx]))
        have h0 := hq q (by simp)
        simp only [smB, List.zip_cons_cons, List.map_cons, List.sum_cons] at this ⊢
        cases d == b <;> simp <;> omega
  have h3 := h2 ps l (fun q hq => by
    obtain ⟨k, hk, rfl⟩ := List.getElem_of_mem hq
    have := (h7 k hk).1
    have e : pcAt ps k = ps[k] := by unfold pcAt; rw [List.getD_eq_getElem?_getD, List.getElem?_eq_getElem hk]; rfl
    rw [e] at this
    omega)
  have h8 : 0 ≤ kf * ((l.count b - 1 : Nat) : Int) := Int.mul_nonneg h4.1 (by omega)
  unfold rsB
  omega
theorem Ins.restP (H : Ins bs ps kf wr ps' wr') (h : ckS bs ps kf wr = true) (h' : ckS bs ps' kf wr' = true) (hne : trL bs ps kf wr ≠ []) (hb : b < bs.length) :
    (restP bs ps' kf wr' b).2 = 0 ∧ (restP bs ps' kf wr' b).1.lo ≤ (restP bs ps kf wr b).1.lo ∧ (restP bs ps kf wr b).1.hi ≤ (restP bs ps' kf wr' b).1.hi ∧ (restP bs ps kf wr b).1.lo ≤ (restP bs ps kf wr b).1.hi := by
  rw [rest_ok h hb, rest_ok h' hb, if_neg hne, if_neg (H.ne hne)]
  have key : ∀ (p1 : List Pc) (w1 : Int), ckS bs p1 kf w1 = true → ∀ x ∈ (trL bs p1 kf w1).map fun l => rsB bs p1 kf l b, 0 ≤ x ∧ x ≤ 999 := fun p1 w1 hc x hx => by
    obtain ⟨m, hm, rfl⟩ := List.mem_map.1 hx
    exact rs_bd hc hm hb
  obtain ⟨a1, a2, a3⟩ := spF_mem (by simpa using hne) (key ps wr h)
  obtain ⟨c1, c2, c3⟩ := spF_mem (by simpa using H.ne hne) (key ps' wr' h')
  have sub : ∀ x ∈ (trL bs ps kf wr).map (fun l => rsB bs ps kf l b), x ∈ (trL bs ps' kf wr').map fun l => rsB bs ps' kf l b := fun x hx => by
    obtain ⟨m, hm, rfl⟩ := List.mem_map.1 hx
    exact List.mem_map.2 ⟨m, H.mem m hm, H.rest⟩
  exact ⟨rfl, (c3 _ (sub _ a1)).1, (c3 _ (sub _ a2)).2, (a3 _ a1).2⟩
end

section
variable {bs : List Br} {ps ps' : List Pc} {kf wr wr' : Int} {l : List Nat} {a b c p : Nat}
theorem Ins.room (H : Ins bs ps kf wr ps' wr') (h : ckS bs ps kf wr = true) (h' : ckS bs ps' kf wr' = true) (hne : trL bs ps kf wr ≠ []) (lg : Int) :
    (roomP bs ps' kf wr' lg).2 = 0 → (roomP bs ps' kf wr' lg).1 ≠ 3 → (roomP bs ps kf wr lg).2 = 0 ∧ (roomP bs ps kf wr lg).1 = (roomP bs ps' kf wr' lg).1 := by
  have e : ∀ (p1 : List Pc) (w1 : Int), ckS bs p1 kf w1 = true → trL bs p1 kf w1 ≠ [] → roomP bs p1 kf w1 lg = bif wi lg 1 999 then (knP (fun l => anyN bs.length fun k => fitS kf (swOf bs p1 kf l) k lg) (trL bs p1 kf w1), 0) else (0, 1) := fun p1 w1 hc hn => by
    unfold roomP
    cases wi lg 1 999
    · have : askE bs p1 kf w1 false = 1 := by unfold askE; rw [hc]; rfl
      rw [this]; rfl
    · rw [askE_ok hc, if_neg hn, swA_ok hc (ckS_vals hc).2.2.2.1.1, knP_map]; rfl
  rw [e ps wr h hne, e ps' wr' h' (H.ne hne)]
  cases wi lg 1 999
  · intro h0; cases h0
  · intro _ h3
    have hf : (fun l => anyN bs.length fun k => fitS kf (swOf bs ps' kf l) k lg) = fun l => anyN bs.length fun k => fitS kf (swOf bs ps kf l) k lg := funext fun l => by
      rw [Bool.eq_iff_iff, anyN_ex, anyN_ex]
      have key : ∀ k, k < bs.length → fitS kf (swOf bs ps' kf l) k lg = fitS kf (swOf bs ps kf l) k lg := fun k hk => by
        unfold fitS
        simp only [swOf, iAt_mapR hk, H.rest]
      exact ⟨fun ⟨k, hk, e⟩ => ⟨k, hk, by rw [← key k hk]; exact e⟩, fun ⟨k, hk, e⟩ => ⟨k, hk, by rw [key k hk]; exact e⟩⟩
    simp only [cond_true] at h3 ⊢
    rw [hf] at h3 ⊢
    exact ⟨trivial, knP_sub hne H.mem h3⟩
theorem Ins.alike (H : Ins bs ps kf wr ps' wr') (h : ckS bs ps kf wr = true) (h' : ckS bs ps' kf wr' = true) (hne : trL bs ps kf wr ≠ []) (ha : a < ps.length) (hc : c < ps.length) :
    (alikeP bs ps kf wr a c).2 = 0 ∧ (alikeP bs ps' kf wr' a c).2 = 0 ∧ ((alikeP bs ps' kf wr' a c).1 = 3 ∨ (alikeP bs ps kf wr a c).1 = (alikeP bs ps' kf wr' a c).1) := by
  rw [alike_ok h ha hc, alike_ok h' (by rw [H.pl]; exact ha) (by rw [H.pl]; exact hc), if_neg hne, if_neg (H.ne hne)]
  refine ⟨rfl, rfl, ?_⟩
  by_cases h3 : knP (fun l => gN l a == gN l c) (trL bs ps' kf wr') = 3
  · exact .inl h3
  · exact .inr (knP_sub hne H.mem h3)
theorem Ins.of (H : Ins bs ps kf wr ps' wr') (h : ckS bs ps kf wr = true) (h' : ckS bs ps' kf wr' = true) (hne : trL bs ps kf wr ≠ []) (hp : p < ps.length) :
    subI (ofP bs ps kf wr p) (ofP bs ps' kf wr' p) = true := by
  rw [of_ok h hne hp, of_ok h' (H.ne hne) (by rw [H.pl]; exact hp)]
  refine sub_upto fun j _ hj => ?_
  obtain ⟨l, hl, e⟩ := List.any_eq_true.1 hj
  exact List.any_eq_true.2 ⟨l, H.mem l hl, e⟩
theorem ok_more (h : okB bs ps kf wr l = true) (hw : wr ≤ wr') : okB bs ps kf wr' l = true := by
  rw [okB_iff] at h ⊢
  exact ⟨h.1, by omega⟩
theorem less_ins (hw : wr ≤ wr') : Ins bs ps kf wr ps wr' :=
  ⟨rfl, fun _ _ => rfl, fun l hl => trL_mem.2 ⟨(trL_mem.1 hl).1, ok_more (trL_mem.1 hl).2 hw⟩⟩
/-- there is a truth just if Fewest is at most Wrong -/
theorem few_law (h : ckS bs ps kf wr = true) : (askE bs ps kf wr true = 0 ∨ askE bs ps kf wr true = 3) ∧ ((fewP bs ps kf wr).2 = 0 ∨ (fewP bs ps kf wr).2 = 3) ∧
    (askE bs ps kf wr true = 0 ↔ ((fewP bs ps kf wr).2 = 0 ∧ (fewP bs ps kf wr).1 ≤ wr)) := by
  obtain ⟨-, -, h4, h5, h6, h7⟩ := ckS_vals h
  rw [askE_ok h]
  refine ⟨by split <;> simp, ?_⟩
  rcases few_ok h with ⟨h1, h2⟩ | ⟨r, h1, ⟨l, hl, h2⟩, h3⟩
  · rw [h1]
    refine ⟨.inr rfl, ⟨fun e => ?_, fun e => (by cases e.1)⟩⟩
    by_cases e' : trL bs ps kf wr = []
    · rw [if_pos e'] at e; cases e
    · obtain ⟨m, hm⟩ := List.exists_mem_of_ne_nil _ e'
      have := (less_ins (bs := bs) (ps := ps) (kf := kf) h5.2).mem m hm
      rw [h2] at this
      cases this
  · rw [h1]
    refine ⟨.inl rfl, ⟨fun e => ⟨rfl, ?_⟩, fun e => ?_⟩⟩
    · by_cases e' : trL bs ps kf wr = []
      · rw [if_pos e'] at e; cases e
      · obtain ⟨m, hm⟩ := List.exists_mem_of_ne_nil _ e'
        have a1 := h3 m ((less_ins (bs := bs) (ps := ps) (kf := kf) h5.2).mem m hm)
        have a2 := (okB_iff.1 (trL_mem.1 hm).2).2
        show (r : Int) ≤ wr
        omega
    · have e2 : (r : Int) ≤ wr := e.2
      have hm : l ∈ trL bs ps kf wr := trL_mem.2 ⟨(trL_mem.1 hl).1, okB_iff.2 ⟨(okB_iff.1 (trL_mem.1 hl).2).1, by omega⟩⟩
      rw [if_neg]
      intro e'
      rw [e'] at hm
      cases hm
theorem wgB_less : ∀ (ps : List Pc) (p : Nat) (x : Pc) (l : List Nat), p < ps.length → (∀ v, hasI x.hs v = true → hasI (pcAt ps p).hs v = true) → wgB bs ps l ≤ wgB bs (ps.set p x) l
  | [], p, x, l, h, _ => by simp at h
  | q :: ps, p, x, [], _, _ => by simp [wgB]
  | q :: ps, 0, x, c :: l, _, e => by
    have e : hasI x.hs (brAt bs c).heat = true → hasI q.hs (brAt bs c).heat = true := e _
    simp only [wgB, List.set_cons_zero, List.zip_cons_cons, List.countP_cons]
    revert e
    cases hasI x.hs (brAt bs c).heat <;> cases hasI q.hs (brAt bs c).heat <;> simp
  | q :: ps, p + 1, x, c :: l, h, e => by
    have ih := wgB_less ps p x l (by simpa using h) e
    simp only [wgB, List.set_cons_succ, List.zip_cons_cons, List.countP_cons] at ih ⊢
    omega
theorem read_ins {hs' : List Int} (hp : p < ps.length) (hs : ∀ v, hasI hs' v = true → hasI (pcAt ps p).hs v = true) : Ins bs (ps.set p ⟨(pcAt ps p).long, hs'⟩) kf wr ps wr := by
  have hl : (ps.set p ⟨(pcAt ps p).long, hs'⟩).length = ps.length := by simp
  refine ⟨hl.symm, fun k _ => ?_, fun l h => ?_⟩
  · have : pcAt (ps.set p ⟨(pcAt ps p).long, hs'⟩) k = if p = k then ⟨(pcAt ps p).long, hs'⟩ else pcAt ps k := by
      unfold pcAt
      rw [List.getD_eq_getElem?_getD, List.getD_eq_getElem?_getD, List.getElem?_set]
      split <;> simp_all
    rw [this]
    split
    · rename_i e; subst e; rfl
    · rfl
  · obtain ⟨⟨h1, h2⟩, h3⟩ := trL_mem.1 h
    rw [hl] at h1
    refine trL_mem.2 ⟨⟨h1, h2⟩, ?_⟩
    rw [okB_iff] at h3 ⊢
    refine ⟨fun b hb => ?_, ?_⟩
    · have a1 := h3.1 b hb
      unfold rsB at a1 ⊢
      rw [smB_set ps p _ l b hp (by omega)] at a1
      have : (bif gN l p == b then (pcAt ps p).long - (pcAt ps p).long else 0) = 0 := by cases gN l p == b <;> simp
      simp only [this, Int.add_zero] at a1
      exact a1
    · have a2 := h3.2
      have a3 := wgB_less (bs := bs) ps p ⟨(pcAt ps p).long, hs'⟩ l hp hs
      omega
end

end Go.Proofs.Ytdhlnlmhdacblaa

namespace Go.Proofs.Ytdhlnlmhdacblaa
open Go.RowKit
open Go.Sort (grow)
set_option linter.unusedVariables false
set_option linter.unusedSimpArgs false

attribute [local go_sem] Oper.semAt_some
def eqI (xs ys : List Int) : Bool := xs.length == ys.length && allN xs.length fun k => iAt xs k == iAt ys k
theorem eqI_iff {xs ys : List Int} : eqI xs ys = true ↔ xs = ys := by
  unfold eqI
  simp only [Bool.and_eq_true, beq_iff_eq, allN_iff]
  refine ⟨fun ⟨h, h2⟩ => ?_, fun h => by subst h; simp⟩
  apply List.ext_getElem? fun k => ?_
  by_cases hk : k < xs.length
  · have := h2 k hk
    unfold iAt at this
    rw [List.getD_eq_getElem?_getD, List.getD_eq_getElem?_getD, List.getElem?_eq_getElem hk, List.getElem?_eq_getElem (by omega)] at this
    rw [List.getElem?_eq_getElem hk, List.getElem?_eq_getElem (by omega)]
    simpa using this
  · rw [List.getElem?_eq_none (by omega), List.getElem?_eq_none (by omega)]
def badI (nb : Nat) (ls : List Int) : Bool := anyN ls.length fun k => !wi (iAt ls k) 0 ((nb : Int) - 1)
def fitP (bs : List Br) (ps : List Pc) (kf wr : Int) (ls : List Int) : Bool × Int :=
  bif ckS bs ps kf wr then (bif ls.length == ps.length && !badI bs.length ls then ((swA bs ps kf wr).any fun x => eqI x.of ls, 0) else (false, 1)) else (false, 10)

end Go.Proofs.Ytdhlnlmhdacblaa
