/- Bars turned and pieces laid the other way around, in plain terms (layer 1); A store whose truths are all truths of another one, in plain terms (layer 1). -/
import Derived.Test.YtdhlnlmhdacblaaTs17
import Derived.Test.YtdhlnlmhdacblaaTs12
import Derived.Test.YtdhlnlmhdacblaaTs14
namespace Go.Proofs.Ytdhlnlmhdacblaa
open Go.RowKit
open Go.Sort (grow)
set_option linter.unusedVariables false
set_option linter.unusedSimpArgs false

theorem nodup_perm {α : Type} [BEq α] [LawfulBEq α] : ∀ (A B : List α), A.Nodup → B.Nodup → (∀ x, x ∈ A ↔ x ∈ B) → A.Perm B
  | [], B, _, _, h => by
    have : B = [] := List.eq_nil_iff_forall_not_mem.2 fun x hx => by have := (h x).2 hx; cases this
    rw [this]
  | a :: A, B, hA, hB, h => by
    have ha : a ∈ B := (h a).1 (by simp)
    obtain ⟨h1, h2⟩ := List.nodup_cons.1 hA
    refine List.Perm.trans ?_ (List.perm_cons_erase ha).symm
    refine List.Perm.cons a (nodup_perm A (B.erase a) h2 (hB.erase a) fun x => ?_)
    constructor
    · intro hx
      have hxa : x ≠ a := fun e => h1 (e ▸ hx)
      exact (List.mem_erase_of_ne hxa).2 ((h x).1 (by simp [hx]))
    · intro hx
      have hxa : x ≠ a := fun e => by
        subst e
        exact (List.Nodup.not_mem_erase hB) hx
      have := (h x).2 (List.mem_of_mem_erase hx)
      rcases List.mem_cons.1 this with e | e
      · exact absurd e hxa
      · exact e
/-- where a bar of the turned store comes from, and where it goes -/
def tuF (nb by_ i : Nat) : Nat := (i + by_) % nb
def tuB (nb by_ i : Nat) : Nat := (i + (nb - by_ % nb)) % nb
theorem tuF_lt {nb y i : Nat} (h : 0 < nb) : tuF nb y i < nb := Nat.mod_lt _ h
theorem tuB_lt {nb y i : Nat} (h : 0 < nb) : tuB nb y i < nb := Nat.mod_lt _ h
theorem tu_FB {nb y i : Nat} (h : i < nb) : tuF nb y (tuB nb y i) = i := by
  unfold tuF tuB
  rw [Nat.mod_add_mod]
  have h1 : y % nb < nb := Nat.mod_lt _ (by omega)
  have h2 := Nat.div_add_mod y nb
  have : i + (nb - y % nb) + y = i + nb * (y / nb + 1) := by rw [Nat.mul_add]; omega
  rw [this, Nat.add_mul_mod_self_left, Nat.mod_eq_of_lt h]
theorem tu_BF {nb y i : Nat} (h : i < nb) : tuB nb y (tuF nb y i) = i := by
  unfold tuF tuB
  rw [Nat.mod_add_mod]
  have h1 : y % nb < nb := Nat.mod_lt _ (by omega)
  have h2 := Nat.div_add_mod y nb
  have : i + y + (nb - y % nb) = i + nb * (y / nb + 1) := by rw [Nat.mul_add]; omega
  rw [this, Nat.add_mul_mod_self_left, Nat.mod_eq_of_lt h]
theorem tuF_inj {nb y i j : Nat} (hi : i < nb) (hj : j < nb) (e : tuF nb y i = tuF nb y j) : i = j := by
  rw [← tu_BF (y := y) hi, e, tu_BF hj]
/-- a sawing of the turned store as one of the store -/
def tuL (nb y : Nat) (l : List Nat) : List Nat := (l.map (tuF nb y)).reverse
theorem zip_rev {α β : Type} : ∀ (a : List α) (b : List β), a.length = b.length → a.reverse.zip b.reverse = (a.zip b).reverse
  | [], [], _ => rfl
  | x :: a, y :: b, h => by
    have h' : a.length = b.length := by simpa using h
    simp only [List.reverse_cons, List.zip_cons_cons]
    rw [List.zip_append (by simp [h']), zip_rev a b h']
    rfl
  | [], _ :: _, h => by simp at h
  | _ :: _, [], h => by simp at h
/-- what BarsOrder turns a store into -/
structure Turned (bs : List Br) (ps : List Pc) (y : Nat) (bs' : List Br) (ps' : List Pc) : Prop where
  bl : bs'.length = bs.length
  br : ∀ k, k < bs.length → brAt bs' k = brAt bs (tuF bs.length y k)
  pr : ps' = ps.reverse
section
variable {bs bs' : List Br} {ps ps' : List Pc} {y : Nat} {kf most : Int} {l : List Nat} {b : Nat}
theorem smB_turn (hl : l.length = ps.length) (hb : ∀ x ∈ l, x < bs.length) (hbb : b < bs.length) : smB ps.reverse l b = smB ps (tuL bs.length y l) (tuF bs.length y b) := by
  unfold smB tuL
  have e1 : ps.reverse.zip l = (ps.zip l.reverse).reverse := by
    have := zip_rev ps l.reverse (by simp [hl])
    rwa [List.reverse_reverse] at this
  rw [e1, List.map_reverse, List.sum_reverse, ← List.map_reverse, List.zip_map_right, List.map_map]
  congr 1
  refine List.map_congr_left fun x hx => ?_
  have hx2 : x.2 < bs.length := hb _ (by have := (List.of_mem_zip (a := x.1) (b := x.2) hx).2; simpa using this)
  simp only [Function.comp, Prod.map]
  by_cases e : x.2 = b
  · rw [e]; simp
  · have e1 : (x.2 == b) = false := by simpa using e
    have e2 : (tuF bs.length y x.2 == tuF bs.length y b) = false := by
      simp only [beq_eq_false_iff_ne, ne_eq]
      exact fun h => e (tuF_inj hx2 hbb h)
    rw [e1]
    show _ = bif (tuF bs.length y x.2 == tuF bs.length y b) then x.1.long else 0
    rw [e2]
theorem count_turn (hb : ∀ x ∈ l, x < bs.length) (hbb : b < bs.length) : (tuL bs.length y l).count (tuF bs.length y b) = l.count b := by
  unfold tuL
  rw [List.count_reverse]
  unfold List.count
  rw [List.countP_map]
  refine List.countP_congr fun x hx => ?_
  simp only [Function.comp, beq_iff_eq]
  exact ⟨fun h => tuF_inj (hb x hx) hbb h, fun h => by rw [h]⟩
theorem rsB_turn (H : Turned bs ps y bs' ps') (hl : l.length = ps.length) (hb : ∀ x ∈ l, x < bs.length) (hbb : b < bs.length) : rsB bs' ps' kf l b = rsB bs ps kf (tuL bs.length y l) (tuF bs.length y b) := by
  unfold rsB
  rw [H.pr, H.br b hbb, smB_turn hl hb hbb, count_turn hb hbb]
theorem wgB_turn (H : Turned bs ps y bs' ps') (hl : l.length = ps.length) (hb : ∀ x ∈ l, x < bs.length) : wgB bs' ps' l = wgB bs ps (tuL bs.length y l) := by
  unfold wgB tuL
  have e1 : ps.reverse.zip l = (ps.zip l.reverse).reverse := by
    have := zip_rev ps l.reverse (by simp [hl])
    rwa [List.reverse_reverse] at this
  rw [H.pr, e1, List.countP_reverse, ← List.map_reverse, List.zip_map_right, List.countP_map]
  refine List.countP_congr fun x hx => ?_
  have hx2 : x.2 < bs.length := hb _ (by have := (List.of_mem_zip (a := x.1) (b := x.2) hx).2; simpa using this)
  simp only [Function.comp, Prod.map, H.br x.2 hx2]
  rfl
theorem okB_turn (H : Turned bs ps y bs' ps') (hl : l.length = ps.length) (hb : ∀ x ∈ l, x < bs.length) : okB bs' ps' kf most l = okB bs ps kf most (tuL bs.length y l) := by
  rw [Bool.eq_iff_iff, okB_iff, okB_iff, wgB_turn H hl hb, H.bl]
  constructor
  · rintro ⟨h1, h2⟩
    refine ⟨fun b hb' => ?_, h2⟩
    have h0 : 0 < bs.length := by omega
    have := h1 (tuB bs.length y b) (tuB_lt h0)
    rwa [rsB_turn H hl hb (tuB_lt h0), tu_FB hb'] at this
  · rintro ⟨h1, h2⟩
    refine ⟨fun b hb' => ?_, h2⟩
    rw [rsB_turn H hl hb hb']
    exact h1 _ (tuF_lt (by omega))
theorem tr_turn (H : Turned bs ps y bs' ps') : ((trL bs' ps' kf most).map (tuL bs.length y)).Perm (trL bs ps kf most) := by
  have hlen : ps'.length = ps.length := by rw [H.pr]; simp
  refine nodup_perm _ _ ?_ (trL_nodup _ _ _ _) fun x => ?_
  · refine List.pairwise_map.2 (List.Pairwise.imp_of_mem ?_ (trL_nodup bs' ps' kf most))
    intro a c ha hc hac e
    apply hac
    have ha2 := (trL_mem.1 ha).1.2
    have hc2 := (trL_mem.1 hc).1.2
    rw [H.bl] at ha2 hc2
    have e2 : a.map (tuF bs.length y) = c.map (tuF bs.length y) := List.reverse_inj.1 e
    have := congrArg (List.map (tuB bs.length y)) e2
    rw [List.map_map, List.map_map] at this
    have f1 : ∀ l : List Nat, (∀ x ∈ l, x < bs.length) → l.map (tuB bs.length y ∘ tuF bs.length y) = l := fun l h => by
      conv => rhs; rw [← List.map_id l]
      exact List.map_congr_left fun x hx => tu_BF (h x hx)
    rwa [f1 a ha2, f1 c hc2] at this
  · rw [List.mem_map]
    constructor
    · rintro ⟨l, hl, rfl⟩
      obtain ⟨⟨h1, h2⟩, h3⟩ := trL_mem.1 hl
      rw [H.bl] at h2
      rw [hlen] at h1
      refine trL_mem.2 ⟨⟨by simp [tuL, h1], fun b hb => ?_⟩, by rw [← okB_turn H h1 h2]; exact h3⟩
      simp only [tuL, List.mem_reverse, List.mem_map] at hb
      obtain ⟨c, hc, rfl⟩ := hb
      exact tuF_lt (by have := h2 c hc; omega)
    · intro hx
      obtain ⟨⟨h1, h2⟩, h3⟩ := trL_mem.1 hx
      have e : tuL bs.length y ((x.map (tuB bs.length y)).reverse) = x := by
        unfold tuL
        rw [List.map_reverse, List.reverse_reverse, List.map_map]
        conv => rhs; rw [← List.map_id x]
        exact List.map_congr_left fun c hc => tu_FB (h2 c hc)
      have hb : ∀ c ∈ (x.map (tuB bs.length y)).reverse, c < bs.length := fun c hc => by
        simp only [List.mem_reverse, List.mem_map] at hc
        obtain ⟨d, hd, rfl⟩ := hc
        exact tuB_lt (by have := h2 d hd; omega)
      refine ⟨(x.map (tuB bs.length y)).reverse, trL_mem.2 ⟨⟨by rw [hlen]; simp [h1], by rw [H.bl]; exact hb⟩, ?_⟩, e⟩
      rw [okB_turn H (by simp [h1]) hb, e]
      exact h3
end

section
variable {bs bs' : List Br} {ps ps' : List Pc} {y : Nat} {kf wr most : Int} {l : List Nat} {b : Nat}
theorem pcAt_rev {k : Nat} (h : k < ps.length) : pcAt ps.reverse k = pcAt ps (ps.length - 1 - k) := by
  unfold pcAt
  rw [List.getD_eq_getElem?_getD, List.getD_eq_getElem?_getD, List.getElem?_reverse h]
theorem ck_turn (H : Turned bs ps y bs' ps') (h : ckS bs ps kf wr = true) : ckS bs' ps' kf wr = true := by
  obtain ⟨h1, h2, h4, h5, h6, h7⟩ := ckS_vals h
  have hpl : ps'.length = ps.length := by rw [H.pr]; simp
  unfold ckS
  simp only [Bool.and_eq_true, decide_eq_true_eq, wi_true, allN_iff]
  refine ⟨⟨by rw [H.bl]; exact h1, by rw [hpl]; exact h2, h4, h5⟩, fun k hk => ?_, fun k hk => ?_⟩
  · rw [H.bl] at hk
    rw [H.br k hk]
    exact h6 _ (tuF_lt (by omega))
  · rw [hpl] at hk
    rw [H.pr, pcAt_rev hk]
    exact h7 _ (by omega)
theorem ask_turn (H : Turned bs ps y bs' ps') (h : ckS bs ps kf wr = true) : askE bs' ps' kf wr true = askE bs ps kf wr true := by
  rw [askE_ok h, askE_ok (ck_turn H h)]
  have hp := (tr_turn (kf := kf) (most := wr) H).length_eq
  rw [List.length_map] at hp
  by_cases e : trL bs ps kf wr = []
  · rw [e] at hp
    rw [if_pos e, if_pos (List.eq_nil_of_length_eq_zero (by simpa using hp))]
  · rw [if_neg e, if_neg]
    intro e'
    rw [e'] at hp
    exact e (List.eq_nil_of_length_eq_zero (by simpa using hp.symm))
theorem many_turn (H : Turned bs ps y bs' ps') (h : ckS bs ps kf wr = true) : manyR bs' ps' kf wr = manyR bs ps kf wr := by
  rw [manyR_ok h, manyR_ok (ck_turn H h)]
  have hp := (tr_turn (kf := kf) (most := wr) H).length_eq
  rw [List.length_map] at hp
  rw [hp]
theorem tr_lt (H : Turned bs ps y bs' ps') (h : l ∈ trL bs' ps' kf most) : l.length = ps.length ∧ ∀ x ∈ l, x < bs.length := by
  obtain ⟨⟨h1, h2⟩, -⟩ := trL_mem.1 h
  rw [H.bl] at h2
  exact ⟨by rw [h1, H.pr]; simp, h2⟩
theorem tr_to (H : Turned bs ps y bs' ps') (h : l ∈ trL bs' ps' kf most) : tuL bs.length y l ∈ trL bs ps kf most := (tr_turn H).mem_iff.1 (List.mem_map.2 ⟨l, h, rfl⟩)
theorem tr_from (H : Turned bs ps y bs' ps') (h : l ∈ trL bs ps kf most) : ∃ m ∈ trL bs' ps' kf most, tuL bs.length y m = l := List.mem_map.1 ((tr_turn H).mem_iff.2 h)
theorem few_turn (H : Turned bs ps y bs' ps') (h : ckS bs ps kf wr = true) : fewP bs' ps' kf wr = fewP bs ps kf wr := by
  rcases few_ok h with ⟨h1, h2⟩ | ⟨r, h1, ⟨l, hl, h2⟩, h3⟩ <;> rcases few_ok (ck_turn H h) with ⟨h4, h5⟩ | ⟨r', h4, ⟨m, hm, h5⟩, h6⟩
  · rw [h1, h4]
  · have := tr_to H hm
    rw [h2] at this
    cases this
  · obtain ⟨m, hm, -⟩ := tr_from H hl
    rw [h5] at hm
    cases hm
  · rw [h1, h4]
    obtain ⟨n, hn, en⟩ := tr_from H hl
    have a1 := h3 _ (tr_to H hm)
    have a2 := h6 n hn
    have b1 := tr_lt H hm
    have b2 := tr_lt H hn
    rw [← wgB_turn H b1.1 b1.2, h5] at a1
    rw [wgB_turn H b2.1 b2.2, en, h2] at a2
    rw [show r' = r by omega]
theorem us_turn (h : ∀ x ∈ l, x < bs.length) : usL bs.length (tuL bs.length y l) = usL bs.length l := by
  unfold usL
  rw [List.countP_eq_length_filter, List.countP_eq_length_filter]
  have hp : (((List.range bs.length).filter fun k => decide (0 < l.count k)).map (tuF bs.length y)).Perm ((List.range bs.length).filter fun k => decide (0 < (tuL bs.length y l).count k)) := by
    refine nodup_perm _ _ ?_ (List.nodup_range.filter _) fun x => ?_
    · refine List.pairwise_map.2 (List.Pairwise.imp_of_mem ?_ (List.nodup_range.filter _))
      intro a c ha hc hac e
      exact hac (tuF_inj (List.mem_range.1 (List.mem_filter.1 ha).1) (List.mem_range.1 (List.mem_filter.1 hc).1) e)
    · rw [List.mem_map]
      constructor
      · rintro ⟨k, hk, rfl⟩
        obtain ⟨h1, h2⟩ := List.mem_filter.1 hk
        have h1 := List.mem_range.1 h1
        refine List.mem_filter.2 ⟨List.mem_range.2 (tuF_lt (by omega)), ?_⟩
        rw [count_turn h h1]
        exact h2
      · intro hx
        obtain ⟨h1, h2⟩ := List.mem_filter.1 hx
        have h1 := List.mem_range.1 h1
        have h3 : tuB bs.length y x < bs.length := tuB_lt (by omega)
        refine ⟨tuB bs.length y x, List.mem_filter.2 ⟨List.mem_range.2 h3, ?_⟩, tu_FB h1⟩
        rw [← count_turn (y := y) h h3, tu_FB h1]
        exact h2
  rw [← hp.length_eq, List.length_map]
theorem least_turn (H : Turned bs ps y bs' ps') (h : ckS bs ps kf wr = true) : leastP bs' ps' kf wr = leastP bs ps kf wr := by
  rcases least_ok h with ⟨h1, h2⟩ | ⟨l, hl, h2, h3⟩ <;> rcases least_ok (ck_turn H h) with ⟨h4, h5⟩ | ⟨m, hm, h5, h6⟩
  · rw [h2, h5]
  · have := tr_to H hm
    rw [h1] at this
    cases this
  · obtain ⟨m, hm, -⟩ := tr_from H hl
    rw [h4] at hm
    cases hm
  · obtain ⟨n, hn, en⟩ := tr_from H hl
    have a1 := h3 _ (tr_to H hm)
    have a2 := h6 n hn
    rw [H.bl] at a2
    rw [us_turn (tr_lt H hm).2] at a1
    rw [← us_turn (y := y) (tr_lt H hn).2, en] at a2
    rw [h2, h5, H.bl]
    omega
theorem knP_turn (H : Turned bs ps y bs' ps') {p p' : List Nat → Bool} (h : ∀ l ∈ trL bs' ps' kf most, p' l = p (tuL bs.length y l)) : knP p' (trL bs' ps' kf most) = knP p (trL bs ps kf most) := by
  have hp := tr_turn (kf := kf) (most := most) H
  have e1 : ∀ q q' : List Nat → Bool, (∀ l ∈ trL bs' ps' kf most, q' l = q (tuL bs.length y l)) → (trL bs' ps' kf most).countP q' = (trL bs ps kf most).countP q := fun q q' hq => by
    rw [← hp.countP_eq, List.countP_map]
    exact List.countP_congr fun l hl => by rw [hq l hl]; rfl
  unfold knP
  rw [e1 p p' h, e1 (fun l => !p l) (fun l => !p' l) fun l hl => by rw [h l hl]]
theorem room_turn (H : Turned bs ps y bs' ps') (h : ckS bs ps kf wr = true) (lg : Int) : roomP bs' ps' kf wr lg = roomP bs ps kf wr lg := by
  obtain ⟨-, -, h4, h5, h6, h7⟩ := ckS_vals h
  unfold roomP
  cases hw : wi lg 1 999
  · have e : ∀ (b1 : List Br) (p1 : List Pc), ckS b1 p1 kf wr = true → askE b1 p1 kf wr false = 1 := fun b1 p1 hc => by unfold askE; rw [hc]; rfl
    rw [e _ _ h, e _ _ (ck_turn H h)]; rfl
  · rw [ask_turn H h, swA_ok h h5.1, swA_ok (ck_turn H h) h5.1, knP_map, knP_map]
    have : knP (fun l => anyN bs'.length fun k => fitS kf (swOf bs' ps' kf l) k lg) (trL bs' ps' kf wr) = knP (fun l => anyN bs.length fun k => fitS kf (swOf bs ps kf l) k lg) (trL bs ps kf wr) := by
      refine knP_turn H fun l hl => ?_
      obtain ⟨b1, b2⟩ := tr_lt H hl
      have key : ∀ k, k < bs.length → fitS kf (swOf bs' ps' kf l) k lg = fitS kf (swOf bs ps kf (tuL bs.length y l)) (tuF bs.length y k) lg := fun k hk => by
        have hf : tuF bs.length y k < bs.length := tuF_lt (by omega)
        unfold fitS
        simp only [swOf, iAt_mapR hf, iAt_mapR (show k < bs'.length by rw [H.bl]; exact hk)]
        rw [rsB_turn H b1 b2 hk, count_turn b2 hk]
      rw [Bool.eq_iff_iff, anyN_ex, anyN_ex, H.bl]
      constructor
      · rintro ⟨k, hk, e⟩
        exact ⟨_, tuF_lt (by omega), by rw [← key k hk]; exact e⟩
      · rintro ⟨k, hk, e⟩
        have hb : tuB bs.length y k < bs.length := tuB_lt (by omega)
        exact ⟨_, hb, by rw [key _ hb, tu_FB hk]; exact e⟩
    rw [this]
end

section
variable {bs bs' : List Br} {ps ps' : List Pc} {y : Nat} {kf wr most : Int} {l : List Nat} {a b c : Nat}
theorem alike_ok (h : ckS bs ps kf wr = true) (ha : a < ps.length) (hc : c < ps.length) :
    alikeP bs ps kf wr a c = if trL bs ps kf wr = [] then (0, 3) else (knP (fun l => gN l a == gN l c) (trL bs ps kf wr), 0) := by
  obtain ⟨-, -, h4, h5, h6, h7⟩ := ckS_vals h
  have e1 : wi (a : Int) 0 ((ps.length : Int) - 1) = true := wi_true.2 (by omega)
  have e2 : wi (c : Int) 0 ((ps.length : Int) - 1) = true := wi_true.2 (by omega)
  unfold alikeP
  rw [e1, e2, Bool.and_self, askE_ok h, swA_ok h h5.1, knP_map]
  have : (fun l => iAt (swOf bs ps kf l).of (a : Int).toNat == iAt (swOf bs ps kf l).of (c : Int).toNat) = fun l => gN l a == gN l c := funext fun l => by
    simp only [swOf, Int.toNat_natCast, toI_at]
    rw [Bool.eq_iff_iff, beq_iff_eq, beq_iff_eq]
    omega
  rw [this]
  split <;> rfl
theorem gN_turn (hl : l.length = ps.length) (ha : a < ps.length) : gN (tuL bs.length y l) a = tuF bs.length y (gN l (ps.length - 1 - a)) := by
  unfold gN tuL
  rw [List.getD_eq_getElem?_getD, List.getD_eq_getElem?_getD, List.getElem?_reverse (by simp [hl, ha]), List.length_map, hl, List.getElem?_map, List.getElem?_eq_getElem (by omega)]
  rfl
theorem gN_in (hl : l.length = ps.length) (hb : ∀ x ∈ l, x < bs.length) (ha : a < ps.length) : gN l a < bs.length := hb _ (gN_lt (by omega))
theorem alike_turn (H : Turned bs ps y bs' ps') (h : ckS bs ps kf wr = true) (ha : a < ps.length) (hc : c < ps.length) :
    alikeP bs' ps' kf wr ((ps.length - 1 - a : Nat) : Int) ((ps.length - 1 - c : Nat) : Int) = alikeP bs ps kf wr a c := by
  have hpl : ps'.length = ps.length := by rw [H.pr]; simp
  rw [alike_ok h ha hc, alike_ok (ck_turn H h) (by omega) (by omega)]
  have hp := (tr_turn (kf := kf) (most := wr) H).length_eq
  rw [List.length_map] at hp
  rw [knP_turn (p := fun l => gN l a == gN l c) H fun l hl => by
    obtain ⟨b1, b2⟩ := tr_lt H hl
    rw [gN_turn b1 ha, gN_turn b1 hc, Bool.eq_iff_iff, beq_iff_eq, beq_iff_eq]
    exact ⟨fun e => by rw [e], fun e => tuF_inj (gN_in b1 b2 (by omega)) (gN_in b1 b2 (by omega)) e⟩]
  by_cases e : trL bs ps kf wr = []
  · rw [e] at hp
    rw [if_pos e, if_pos (List.eq_nil_of_length_eq_zero (by simpa using hp))]
  · rw [if_neg e, if_neg]
    intro e'
    rw [e'] at hp
    exact e (List.eq_nil_of_length_eq_zero (by simpa using hp.symm))
theorem heats_mem (h : ckS bs ps kf wr = true) (ha : a < ps.length) {v : Int} : v ∈ heatsP bs ps kf wr a ↔ ∃ l ∈ trL bs ps kf wr, (brAt bs (gN l a)).heat = v := by
  have e0 : heatsP bs ps kf wr a = srtC (htL bs (ofP bs ps kf wr a)) := rfl
  rw [e0, srtC_mem]
  by_cases e : trL bs ps kf wr = []
  · have : ofP bs ps kf wr a = [] := by
      unfold ofP
      rw [show wi (a : Int) 0 ((ps.length : Int) - 1) = true from wi_true.2 (by omega), askE_ok h, if_pos e]; rfl
    rw [this, e]
    simp [htL]
  · rw [of_ok h e ha]
    unfold htL
    rw [List.mem_map]
    constructor
    · rintro ⟨j, hj, rfl⟩
      obtain ⟨k, hk, hq, rfl⟩ := uptoL_mem.1 hj
      obtain ⟨l, hl, hg⟩ := List.any_eq_true.1 hq
      refine ⟨l, hl, ?_⟩
      rw [Int.toNat_natCast, show gN l a = k by simpa using hg]
    · rintro ⟨l, hl, rfl⟩
      obtain ⟨⟨h1, h2⟩, -⟩ := trL_mem.1 hl
      exact ⟨_, uptoL_mem.2 ⟨gN l a, h2 _ (gN_lt (by omega)), List.any_eq_true.2 ⟨l, hl, by simp⟩, rfl⟩, by rw [Int.toNat_natCast]⟩
theorem heats_turn (H : Turned bs ps y bs' ps') (h : ckS bs ps kf wr = true) (ha : a < ps.length) : heatsP bs' ps' kf wr ((ps.length - 1 - a : Nat) : Int) = heatsP bs ps kf wr a := by
  have hpl : ps'.length = ps.length := by rw [H.pr]; simp
  refine asc_ext _ _ (srtC_asc _) (srtC_asc _) fun v => ?_
  rw [heats_mem h ha, heats_mem (ck_turn H h) (by omega)]
  constructor
  · rintro ⟨l, hl, rfl⟩
    obtain ⟨b1, b2⟩ := tr_lt H hl
    exact ⟨_, tr_to H hl, by rw [gN_turn b1 ha, H.br _ (gN_in b1 b2 (by omega))]⟩
  · rintro ⟨l, hl, rfl⟩
    obtain ⟨m, hm, rfl⟩ := tr_from H hl
    obtain ⟨b1, b2⟩ := tr_lt H hm
    exact ⟨m, hm, by rw [gN_turn b1 ha, H.br _ (gN_in b1 b2 (by omega))]⟩
def spF (o : Sp) (x : Int) : Sp := ⟨mn2 o.lo x, mx2 o.hi x⟩
theorem rest_ok (h : ckS bs ps kf wr = true) (hb : b < bs.length) :
    restP bs ps kf wr b = if trL bs ps kf wr = [] then (⟨0, 0⟩, 3) else (((trL bs ps kf wr).map fun l => rsB bs ps kf l b).foldl spF ⟨999, 0⟩, 0) := by
  obtain ⟨-, -, h4, h5, h6, h7⟩ := ckS_vals h
  unfold restP
  rw [show wi (b : Int) 0 ((bs.length : Int) - 1) = true from wi_true.2 (by omega), askE_ok h, swA_ok h h5.1, List.foldl_map, List.foldl_map]
  have : (fun (o : Sp) (l : List Nat) => rsF (b : Int).toNat o (swOf bs ps kf l)) = fun o l => spF o (rsB bs ps kf l b) := funext fun o => funext fun l => by
    unfold rsF spF
    simp only [swOf, Int.toNat_natCast, iAt_mapR hb]
  rw [this]
  split <;> rfl
theorem rest_turn (H : Turned bs ps y bs' ps') (h : ckS bs ps kf wr = true) (hb : b < bs.length) : restP bs' ps' kf wr b = restP bs ps kf wr ((tuF bs.length y b : Nat) : Int) := by
  rw [rest_ok h (tuF_lt (by omega)), rest_ok (ck_turn H h) (by rw [H.bl]; exact hb)]
  have hp0 := tr_turn (kf := kf) (most := wr) H
  have hp := hp0.length_eq
  rw [List.length_map] at hp
  have hq : ((trL bs' ps' kf wr).map fun l => rsB bs' ps' kf l b).Perm ((trL bs ps kf wr).map fun l => rsB bs ps kf l (tuF bs.length y b)) := by
    refine List.Perm.trans (List.Perm.of_eq ?_) (hp0.map fun l => rsB bs ps kf l (tuF bs.length y b))
    rw [List.map_map]
    refine List.map_congr_left fun l hl => ?_
    obtain ⟨b1, b2⟩ := tr_lt H hl
    exact rsB_turn H b1 b2 hb
  have hfo := List.Perm.foldl_eq' (f := spF) hq (fun u _ v _ z => by
    unfold spF mn2 mx2
    simp only
    congr 1 <;> (repeat' split) <;> omega) ⟨999, 0⟩
  rw [hfo]
  by_cases e : trL bs ps kf wr = []
  · rw [e] at hp
    rw [if_pos e, if_pos (List.eq_nil_of_length_eq_zero (by simpa using hp))]
  · rw [if_neg e, if_neg]
    intro e'
    rw [e'] at hp
    exact e (List.eq_nil_of_length_eq_zero (by simpa using hp.symm))
end

end Go.Proofs.Ytdhlnlmhdacblaa

namespace Go.Proofs.Ytdhlnlmhdacblaa
open Go.RowKit
open Go.Sort (grow)
set_option linter.unusedVariables false
set_option linter.unusedSimpArgs false

theorem spF_fold : ∀ (L : List Int) (o : Sp), (L.foldl spF o).lo ≤ o.lo ∧ o.hi ≤ (L.foldl spF o).hi ∧ (∀ x ∈ L, (L.foldl spF o).lo ≤ x ∧ x ≤ (L.foldl spF o).hi) ∧
    ((L.foldl spF o).lo = o.lo ∨ (L.foldl spF o).lo ∈ L) ∧ ((L.foldl spF o).hi = o.hi ∨ (L.foldl spF o).hi ∈ L)
  | [], o => ⟨Int.le_refl _, Int.le_refl _, fun x hx => (by cases hx), .inl rfl, .inl rfl⟩
  | z :: L, o => by
    obtain ⟨h1, h2, h3, h4, h5⟩ := spF_fold L (spF o z)
    have a1 : (spF o z).lo ≤ o.lo ∧ (spF o z).lo ≤ z ∧ ((spF o z).lo = o.lo ∨ (spF o z).lo = z) := by
      unfold spF mn2; simp only; split <;> omega
    have a2 : o.hi ≤ (spF o z).hi ∧ z ≤ (spF o z).hi ∧ ((spF o z).hi = o.hi ∨ (spF o z).hi = z) := by
      unfold spF mx2; simp only; split <;> omega
    simp only [List.foldl_cons]
    refine ⟨by omega, by omega, fun x hx => ?_, ?_, ?_⟩
    · rcases List.mem_cons.1 hx with rfl | hx
      · omega
      · exact h3 x hx
    · rcases h4 with h4 | h4
      · rcases a1.2.2 with e | e
        · exact .inl (by rw [h4, e])
        · exact .inr (by rw [h4, e]; simp)
      · exact .inr (by simp [h4])
    · rcases h5 with h5 | h5
      · rcases a2.2.2 with e | e
        · exact .inl (by rw [h5, e])
        · exact .inr (by rw [h5, e]; simp)
      · exact .inr (by simp [h5])
/-- values between 0 and 999: the least and the greatest -/
theorem spF_mem {L : List Int} (hne : L ≠ []) (h : ∀ x ∈ L, 0 ≤ x ∧ x ≤ 999) :
    (L.foldl spF ⟨999, 0⟩).lo ∈ L ∧ (L.foldl spF ⟨999, 0⟩).hi ∈ L ∧ ∀ x ∈ L, (L.foldl spF ⟨999, 0⟩).lo ≤ x ∧ x ≤ (L.foldl spF ⟨999, 0⟩).hi := by
  obtain ⟨h1, h2, h3, h4, h5⟩ := spF_fold L ⟨999, 0⟩
  obtain ⟨z, hz⟩ := List.exists_mem_of_ne_nil L hne
  have hz1 := h z hz
  have hz2 := h3 z hz
  refine ⟨?_, ?_, h3⟩
  · rcases h4 with h4 | h4
    · have h4 : (L.foldl spF ⟨999, 0⟩).lo = 999 := h4
      rw [show (L.foldl spF ⟨999, 0⟩).lo = z by omega]; exact hz
    · exact h4
  · rcases h5 with h5 | h5
    · have h5 : (L.foldl spF ⟨999, 0⟩).hi = 0 := h5
      rw [show (L.foldl spF ⟨999, 0⟩).hi = z by omega]; exact hz
    · exact h5
theorem knP_vals {α : Type} {p : α → Bool} {L : List α} (hne : L ≠ []) :
    (knP p L = 1 ∧ ∀ x ∈ L, p x = true) ∨ (knP p L = 2 ∧ ∀ x ∈ L, p x = false) ∨ (knP p L = 3 ∧ (∃ x ∈ L, p x = true) ∧ ∃ x ∈ L, p x = false) := by
  unfold knP
  cases e1 : ((L.countP fun x => !p x) == 0)
  · have h1 : 0 < L.countP fun x => !p x := Nat.pos_of_ne_zero (by simpa only [beq_eq_false_iff_ne, ne_eq] using e1)
    rw [List.countP_pos_iff] at h1
    obtain ⟨u, hu, hu'⟩ := h1
    cases e2 : (L.countP p == 0)
    · have h2 : 0 < L.countP p := Nat.pos_of_ne_zero (by simpa only [beq_eq_false_iff_ne, ne_eq] using e2)
      rw [List.countP_pos_iff] at h2
      exact .inr (.inr ⟨rfl, h2, u, hu, by simpa using hu'⟩)
    · have h2 : L.countP p = 0 := by simpa only [beq_iff_eq] using e2
      rw [List.countP_eq_zero] at h2
      exact .inr (.inl ⟨rfl, fun x hx => by simpa using h2 x hx⟩)
  · have h1 : (L.countP fun x => !p x) = 0 := by simpa only [beq_iff_eq] using e1
    rw [List.countP_eq_zero] at h1
    exact .inl ⟨rfl, fun x hx => by simpa using h1 x hx⟩
theorem knP_sub {α : Type} {p : α → Bool} {L M : List α} (hne : L ≠ []) (hs : ∀ x ∈ L, x ∈ M) (h3 : knP p M ≠ 3) : knP p L = knP p M := by
  obtain ⟨x, hx⟩ := List.exists_mem_of_ne_nil L hne
  have hm : M ≠ [] := fun e => by have := hs x hx; rw [e] at this; cases this
  rcases knP_vals (p := p) hm with ⟨e, h⟩ | ⟨e, h⟩ | ⟨e, -⟩
  · rcases knP_vals (p := p) hne with ⟨e', -⟩ | ⟨-, h'⟩ | ⟨-, -, u, hu, hu'⟩
    · rw [e, e']
    · have a := h' x hx
      rw [h x (hs x hx)] at a
      cases a
    · rw [h u (hs u hu)] at hu'
      cases hu'
  · rcases knP_vals (p := p) hne with ⟨-, h'⟩ | ⟨e', -⟩ | ⟨-, ⟨u, hu, hu'⟩, -⟩
    · have a := h' x hx
      rw [h x (hs x hx)] at a
      cases a
    · rw [e, e']
    · rw [h u (hs u hu)] at hu'
      cases hu'
  · exact absurd e h3
/-- all truths of the one are truths of the other; the same bars, the same lengths -/
structure Ins (bs : List Br) (ps : List Pc) (kf wr : Int) (ps' : List Pc) (wr' : Int) : Prop where
  pl : ps'.length = ps.length
  long : ∀ k, k < ps.length → (pcAt ps' k).long = (pcAt ps k).long
  mem : ∀ l, l ∈ trL bs ps kf wr → l ∈ trL bs ps' kf wr'
section
variable {bs : List Br} {ps ps' : List Pc} {kf wr wr' : Int} {l : List Nat} {a b c : Nat}
theorem Ins.rest (H : Ins bs ps kf wr ps' wr') : rsB bs ps' kf l b = rsB bs ps kf l b := by
  have h1 := smB_mono (b := b) ps ps' l H.pl (fun k hk => Int.le_of_eq (H.long k hk))
  have h2 := smB_mono (b := b) ps' ps l H.pl.symm (fun k hk => Int.le_of_eq (H.long k (by rw [← H.pl]; exact hk)).symm)
  unfold rsB
  omega
theorem Ins.ne (H : Ins bs ps kf wr ps' wr') (h : trL bs ps kf wr ≠ []) : trL bs ps' kf wr' ≠ [] := fun e => by
  obtain ⟨x, hx⟩ := List.exists_mem_of_ne_nil _ h
  have := H.mem x hx
  rw [e] at this
  cases this
theorem Ins.many (H : Ins bs ps kf wr ps' wr') (h : ckS bs ps kf wr = true) (h' : ckS bs ps' kf wr' = true) (hne : trL bs ps kf wr ≠ []) : 1 ≤ manyR bs ps kf wr ∧ manyR bs ps kf wr ≤ manyR bs ps' kf wr' := by
  rw [manyR_ok h, manyR_ok h']
  have h1 := List.length_pos_iff.2 hne
  have h2 := nodup_le (trL bs ps kf wr) (trL bs ps' kf wr') (trL_nodup _ _ _ _) H.mem
  omega
theorem rs_bd (h : ckS bs ps kf wr = true) (hl : l ∈ trL bs ps kf wr) (hb : b < bs.length) : 0 ≤ rsB bs ps kf l b ∧ rsB bs ps kf l b ≤ 999 := by
  obtain ⟨-, -, h4, h5, h6, h7⟩ := ckS_vals h
  refine ⟨(okB_iff.1 (trL_mem.1 hl).2).1 b hb, ?_⟩
  have h1 := (h6 b hb).2
  have h2 : ∀ (qs : List Pc) (m : List Nat), (∀ q ∈ qs, 0 ≤ q.long) → 0 ≤ smB qs m b := by
    intro qs
    induction qs with
    | nil => intro m _; simp [smB]
    | cons q qs ih =>
      intro m hq
      cases m with
      | nil => simp [smB]
      | cons d m =>
        have := ih m (fun x hx => hq x (by simp [hx]))
        have h0 := hq q (by simp)
        simp only [smB, List.zip_cons_cons, List.map_cons, List.sum_cons] at this ⊢
        cases d == b <;> simp <;> omega
  have h3 := h2 ps l (fun q hq => by
    obtain ⟨k, hk, rfl⟩ := List.getElem_of_mem hq
    have := (h7 k hk).1
    have e : pcAt ps k = ps[k] := by unfold pcAt; rw [List.getD_eq_getElem?_getD, List.getElem?_eq_getElem hk]; rfl
    rw [e] at this
    omega)
  have h8 : 0 ≤ kf * ((l.count b - 1 : Nat) : Int) := Int.mul_nonneg h4.1 (by omega)
  unfold rsB
  omega
theorem Ins.restP (H : Ins bs ps kf wr ps' wr') (h : ckS bs ps kf wr = true) (h' : ckS bs ps' kf wr' = true) (hne : trL bs ps kf wr ≠ []) (hb : b < bs.length) :
    (restP bs ps' kf wr' b).2 = 0 ∧ (restP bs ps' kf wr' b).1.lo ≤ (restP bs ps kf wr b).1.lo ∧ (restP bs ps kf wr b).1.hi ≤ (restP bs ps' kf wr' b).1.hi ∧ (restP bs ps kf wr b).1.lo ≤ (restP bs ps kf wr b).1.hi := by
  rw [rest_ok h hb, rest_ok h' hb, if_neg hne, if_neg (H.ne hne)]
  have key : ∀ (p1 : List Pc) (w1 : Int), ckS bs p1 kf w1 = true → ∀ x ∈ (trL bs p1 kf w1).map fun l => rsB bs p1 kf l b, 0 ≤ x ∧ x ≤ 999 := fun p1 w1 hc x hx => by
    obtain ⟨m, hm, rfl⟩ := List.mem_map.1 hx
    exact rs_bd hc hm hb
  obtain ⟨a1, a2, a3⟩ := spF_mem (by simpa using hne) (key ps wr h)
  obtain ⟨c1, c2, c3⟩ := spF_mem (by simpa using H.ne hne) (key ps' wr' h')
  have sub : ∀ x ∈ (trL bs ps kf wr).map (fun l => rsB bs ps kf l b), x ∈ (trL bs ps' kf wr').map fun l => rsB bs ps' kf l b := fun x hx => by
    obtain ⟨m, hm, rfl⟩ := List.mem_map.1 hx
    exact List.mem_map.2 ⟨m, H.mem m hm, H.rest⟩
  exact ⟨rfl, (c3 _ (sub _ a1)).1, (c3 _ (sub _ a2)).2, (a3 _ a1).2⟩
end

section
variable {bs : List Br} {ps ps' : List Pc} {kf wr wr' : Int} {l : List Nat} {a b c p : Nat}
theorem Ins.room (H : Ins bs ps kf wr ps' wr') (h : ckS bs ps kf wr = true) (h' : ckS bs ps' kf wr' = true) (hne : trL bs ps kf wr ≠ []) (lg : Int) :
    (roomP bs ps' kf wr' lg).2 = 0 → (roomP bs ps' kf wr' lg).1 ≠ 3 → (roomP bs ps kf wr lg).2 = 0 ∧ (roomP bs ps kf wr lg).1 = (roomP bs ps' kf wr' lg).1 := by
  have e : ∀ (p1 : List Pc) (w1 : Int), ckS bs p1 kf w1 = true → trL bs p1 kf w1 ≠ [] → roomP bs p1 kf w1 lg = bif wi lg 1 999 then (knP (fun l => anyN bs.length fun k => fitS kf (swOf bs p1 kf l) k lg) (trL bs p1 kf w1), 0) else (0, 1) := fun p1 w1 hc hn => by
    unfold roomP
    cases wi lg 1 999
    · have : askE bs p1 kf w1 false = 1 := by unfold askE; rw [hc]; rfl
      rw [this]; rfl
    · rw [askE_ok hc, if_neg hn, swA_ok hc (ckS_vals hc).2.2.2.1.1, knP_map]; rfl
  rw [e ps wr h hne, e ps' wr' h' (H.ne hne)]
  cases wi lg 1 999
  · intro h0; cases h0
  · intro _ h3
    have hf : (fun l => anyN bs.length fun k => fitS kf (swOf bs ps' kf l) k lg) = fun l => anyN bs.length fun k => fitS kf (swOf bs ps kf l) k lg := funext fun l => by
      rw [Bool.eq_iff_iff, anyN_ex, anyN_ex]
      have key : ∀ k, k < bs.length → fitS kf (swOf bs ps' kf l) k lg = fitS kf (swOf bs ps kf l) k lg := fun k hk => by
        unfold fitS
        simp only [swOf, iAt_mapR hk, H.rest]
      exact ⟨fun ⟨k, hk, e⟩ => ⟨k, hk, by rw [← key k hk]; exact e⟩, fun ⟨k, hk, e⟩ => ⟨k, hk, by rw [key k hk]; exact e⟩⟩
    simp only [cond_true] at h3 ⊢
    rw [hf] at h3 ⊢
    exact ⟨trivial, knP_sub hne H.mem h3⟩
theorem Ins.alike (H : Ins bs ps kf wr ps' wr') (h : ckS bs ps kf wr = true) (h' : ckS bs ps' kf wr' = true) (hne : trL bs ps kf wr ≠ []) (ha : a < ps.length) (hc : c < ps.length) :
    (alikeP bs ps kf wr a c).2 = 0 ∧ (alikeP bs ps' kf wr' a c).2 = 0 ∧ ((alikeP bs ps' kf wr' a c).1 = 3 ∨ (alikeP bs ps kf wr a c).1 = (alikeP bs ps' kf wr' a c).1) := by
  rw [alike_ok h ha hc, alike_ok h' (by rw [H.pl]; exact ha) (by rw [H.pl]; exact hc), if_neg hne, if_neg (H.ne hne)]
  refine ⟨rfl, rfl, ?_⟩
  by_cases h3 : knP (fun l => gN l a == gN l c) (trL bs ps' kf wr') = 3
  · exact .inl h3
  · exact .inr (knP_sub hne H.mem h3)
theorem Ins.of (H : Ins bs ps kf wr ps' wr') (h : ckS bs ps kf wr = true) (h' : ckS bs ps' kf wr' = true) (hne : trL bs ps kf wr ≠ []) (hp : p < ps.length) :
    subI (ofP bs ps kf wr p) (ofP bs ps' kf wr' p) = true := by
  rw [of_ok h hne hp, of_ok h' (H.ne hne) (by rw [H.pl]; exact hp)]
  refine sub_upto fun j _ hj => ?_
  obtain ⟨l, hl, e⟩ := List.any_eq_true.1 hj
  exact List.any_eq_true.2 ⟨l, H.mem l hl, e⟩
theorem ok_more (h : okB bs ps kf wr l = true) (hw : wr ≤ wr') : okB bs ps kf wr' l = true := by
  rw [okB_iff] at h ⊢
  exact ⟨h.1, by omega⟩
theorem less_ins (hw : wr ≤ wr') : Ins bs ps kf wr ps wr' :=
  ⟨rfl, fun _ _ => rfl, fun l hl => trL_mem.2 ⟨(trL_mem.1 hl).1, ok_more (trL_mem.1 hl).2 hw⟩⟩
/-- there is a truth just if Fewest is at most Wrong -/
theorem few_law (h : ckS bs ps kf wr = true) : (askE bs ps kf wr true = 0 ∨ askE bs ps kf wr true = 3) ∧ ((fewP bs ps kf wr).2 = 0 ∨ (fewP bs ps kf wr).2 = 3) ∧
    (askE bs ps kf wr true = 0 ↔ ((fewP bs ps kf wr).2 = 0 ∧ (fewP bs ps kf wr).1 ≤ wr)) := by
  obtain ⟨-, -, h4, h5, h6, h7⟩ := ckS_vals h
  rw [askE_ok h]
  refine ⟨by split <;> simp, ?_⟩
  rcases few_ok h with ⟨h1, h2⟩ | ⟨r, h1, ⟨l, hl, h2⟩, h3⟩
  · rw [h1]
    refine ⟨.inr rfl, ⟨fun e => ?_, fun e => (by cases e.1)⟩⟩
    by_cases e' : trL bs ps kf wr = []
    · rw [if_pos e'] at e; cases e
    · obtain ⟨m, hm⟩ := List.exists_mem_of_ne_nil _ e'
      have := (less_ins (bs := bs) (ps := ps) (kf := kf) h5.2).mem m hm
      rw [h2] at this
      cases this
  · rw [h1]
    refine ⟨.inl rfl, ⟨fun e => ⟨rfl, ?_⟩, fun e => ?_⟩⟩
    · by_cases e' : trL bs ps kf wr = []
      · rw [if_pos e'] at e; cases e
      · obtain ⟨m, hm⟩ := List.exists_mem_of_ne_nil _ e'
        have a1 := h3 m ((less_ins (bs := bs) (ps := ps) (kf := kf) h5.2).mem m hm)
        have a2 := (okB_iff.1 (trL_mem.1 hm).2).2
        show (r : Int) ≤ wr
        omega
    · have e2 : (r : Int) ≤ wr := e.2
      have hm : l ∈ trL bs ps kf wr := trL_mem.2 ⟨(trL_mem.1 hl).1, okB_iff.2 ⟨(okB_iff.1 (trL_mem.1 hl).2).1, by omega⟩⟩
      rw [if_neg]
      intro e'
      rw [e'] at hm
      cases hm
theorem wgB_less : ∀ (ps : List Pc) (p : Nat) (x : Pc) (l : List Nat), p < ps.length → (∀ v, hasI x.hs v = true → hasI (pcAt ps p).hs v = true) → wgB bs ps l ≤ wgB bs (ps.set p x) l
  | [], p, x, l, h, _ => by simp at h
  | q :: ps, p, x, [], _, _ => by simp [wgB]
  | q :: ps, 0, x, c :: l, _, e => by
    have e : hasI x.hs (brAt bs c).heat = true → hasI q.hs (brAt bs c).heat = true := e _
    simp only [wgB, List.set_cons_zero, List.zip_cons_cons, List.countP_cons]
    revert e
    cases hasI x.hs (brAt bs c).heat <;> cases hasI q.hs (brAt bs c).heat <;> simp
  | q :: ps, p + 1, x, c :: l, h, e => by
    have ih := wgB_less ps p x l (by simpa using h) e
    simp only [wgB, List.set_cons_succ, List.zip_cons_cons, List.countP_cons] at ih ⊢
    omega
theorem read_ins {hs' : List Int} (hp : p < ps.length) (hs : ∀ v, hasI hs' v = true → hasI (pcAt ps p).hs v = true) : Ins bs (ps.set p ⟨(pcAt ps p).long, hs'⟩) kf wr ps wr := by
  have hl : (ps.set p ⟨(pcAt ps p).long, hs'⟩).length = ps.length := by simp
  refine ⟨hl.symm, fun k _ => ?_, fun l h => ?_⟩
  · have : pcAt (ps.set p ⟨(pcAt ps p).long, hs'⟩) k = if p = k then ⟨(pcAt ps p).long, hs'⟩ else pcAt ps k := by
      unfold pcAt
      rw [List.getD_eq_getElem?_getD, List.getD_eq_getElem?_getD, List.getElem?_set]
      split <;> simp_all
    rw [this]
    split
    · rename_i e; subst e; rfl
    · rfl
  · obtain ⟨⟨h1, h2⟩, h3⟩ := trL_mem.1 h
    rw [hl] at h1
    refine trL_mem.2 ⟨⟨h1, h2⟩, ?_⟩
    rw [okB_iff] at h3 ⊢
    refine ⟨fun b hb => ?_, ?_⟩
    · have a1 := h3.1 b hb
      unfold rsB at a1 ⊢
      rw [smB_set ps p _ l b hp (by omega)] at a1
      have : (bif gN l p == b then (pcAt ps p).long - (pcAt ps p).long else 0) = 0 := by cases gN l p == b <;> simp
      simp only [this, Int.add_zero] at a1
      exact a1
    · have a2 := h3.2
      have a3 := wgB_less (bs := bs) ps p ⟨(pcAt ps p).long, hs'⟩ l hp hs
      omega
end

end Go.Proofs.Ytdhlnlmhdacblaa
