/- What a loop over sawings keeps; Many of bars (layer 1); What the sawings of a store are, in plain terms (layer 1). -/
import Derived.Test.YtdhlnlmhdacblaaTl27
namespace Go.Proofs.Ytdhlnlmhdacblaa
open Go.RowKit
open Go.Sort (grow)
set_option linter.unusedVariables false
set_option linter.unusedSimpArgs false

attribute [local go_sem] Oper.semAt_some
theorem Blk.tame {B g : Nat} {t : TypeId} {cs : Array Value} {W W' : World} (h : Blk W g t cs) (ht : Tame B W W') : Blk W' g t cs := (ht.heap h rfl).trans h
theorem SawM.tame {B B' b nb : Nat} {st : Sw} {W W' : World} (h : SawM B b nb st W) (ht : Tame B' W W') : SawM B b nb st W' := by
  obtain ⟨A1, c1, A2, c2, A3, c3, h0, h1, h1', ⟨h2, h3⟩, ⟨h4, h5⟩, h6, h7⟩ := h.ex
  have up : ∀ {A : Option Addr}, (∀ a, A = some a → B ≤ a.block ∧ a.block ≠ b ∧ a.block < W.heap.size) → ∀ a, A = some a → B ≤ a.block ∧ a.block ≠ b ∧ a.block < W'.heap.size := fun h a e => ⟨(h a e).1, (h a e).2.1, Nat.lt_of_lt_of_le (h a e).2.2 ht.size⟩
  exact ⟨h.rl, h.cl, A1, c1, A2, c2, A3, c3, h0.tame ht, h1, h1', ⟨ht.ints h2, up h3⟩, ⟨ht.ints h4, up h5⟩, ht.ints h6, up h7⟩
/-- what is kept while sawings are ranged over -/
structure RgB (w : World) (b1 b2 : Nat) (Ab Ap : Option Addr) (nb cb np cp : Nat) (kf wrg most : Int) (W : World) : Prop where
  bw : Below w.heap.size w W
  k1 : Blk W b1 25 #[.slice Ab nb cb, .int .i64 kf, .slice Ap np cp, .int .i64 wrg]
  k2 : Blk W b2 3 #[.int .i64 most]
section
variable {w : World} {b1 b2 : Nat} {Ab Ap : Option Addr} {nb cb np cp : Nat} {kf wrg most : Int} {W W' : World}
theorem RgB.later (h : RgB w b1 b2 Ab Ap nb cb np cp kf wrg most W) (hb : Below W.heap.size W W') : RgB w b1 b2 Ab Ap nb cb np cp kf wrg most W' :=
  ⟨h.bw.trans (hb.mono h.bw.size), h.k1.below hb h.k1.lt, h.k2.below hb h.k2.lt⟩
theorem RgB.tameB {B b : Nat} (h : RgB w b1 b2 Ab Ap nb cb np cp kf wrg most W) (ht : TameB B b W W') (hB : w.heap.size ≤ B) (hb : w.heap.size ≤ b) (h1 : b1 ≠ b) (h2 : b2 ≠ b) : RgB w b1 b2 Ab Ap nb cb np cp kf wrg most W' :=
  ⟨ht.below hB hb h.bw.size h.bw, ht.blk h.k1 h1, ht.blk h.k2 h2⟩
theorem RgB.tame {B : Nat} (h : RgB w b1 b2 Ab Ap nb cb np cp kf wrg most W) (ht : Tame B W W') (hB : w.heap.size ≤ B) : RgB w b1 b2 Ab Ap nb cb np cp kf wrg most W' :=
  ⟨ht.below hB h.bw.size h.bw, (ht.heap h.k1 rfl).trans h.k1, (ht.heap h.k2 rfl).trans h.k2⟩
theorem RgB.set {p : Addr} (h : RgB w b1 b2 Ab Ap nb cb np cp kf wrg most W) (hp : w.heap.size ≤ p.block) (h1 : b1 ≠ p.block) (h2 : b2 ≠ p.block) (u : Value) : RgB w b1 b2 Ab Ap nb cb np cp kf wrg most (W.setCell p u) :=
  ⟨h.bw.setCell hp u, h.k1.far h1 u, h.k2.far h2 u⟩
theorem RgB.drew (h : RgB w b1 b2 Ab Ap nb cb np cp kf wrg most W) : RgB w b1 b2 Ab Ap nb cb np cp kf wrg most W.drew := ⟨Below.drew h.bw, h.k1, h.k2⟩
theorem RgB.mem {bs : List Br} {ms : List Pm} {ps : List Pc} (h : RgB w b1 b2 Ab Ap nb cb np cp kf wrg most W) (HB : BrsAt w Ab nb bs) (HP : PcsAt w Ap np ms ps) : SwMem b1 b2 Ab Ap nb cb np cp kf wrg most bs ms ps W :=
  ⟨h.k1, h.k2, HB.later h.bw, HP.later h.bw⟩
theorem RgB.of {bs : List Br} {ms : List Pm} {ps : List Pc} (h : SwMem b1 b2 Ab Ap nb cb np cp kf wrg most bs ms ps W) (hb : Below w.heap.size w W) : RgB w b1 b2 Ab Ap nb cb np cp kf wrg most W := ⟨hb, h.k1, h.k2⟩
end
theorem askE_0 {bs : List Br} {ps : List Pc} {kf wr : Int} {is : Bool} (h : askE bs ps kf wr is = 0) : ckS bs ps kf wr = true ∧ is = true ∧ swA bs ps kf wr ≠ [] := by
  unfold askE at h
  cases e1 : ckS bs ps kf wr <;> rw [e1] at h
  · simp at h
  · cases is
    · simp at h
    · refine ⟨rfl, rfl, fun e => ?_⟩
      rw [e] at h
      simp at h
theorem askE_or {bs : List Br} {ps : List Pc} {kf wr : Int} {is : Bool} : askE bs ps kf wr is = 0 ∨ askE bs ps kf wr is = 1 ∨ askE bs ps kf wr is = 3 ∨ askE bs ps kf wr is = 10 := by
  unfold askE
  cases ckS bs ps kf wr <;> cases is <;> simp
  cases (swA bs ps kf wr).isEmpty <;> simp
theorem swA_len {bs : List Br} {ps : List Pc} {kf wr : Int} {nb np : Nat} (ok : OkSt bs ps kf nb np) : (swA bs ps kf wr).length ≤ 1679616 := by
  have h : ∀ (p : Nat) (st : Sw), (swL bs ps kf wr nb p st).length ≤ 6 ^ p := by
    intro p
    induction p with
    | zero => intro st; simp [swL]
    | succ p ih =>
      intro st
      rw [swL_succ]
      have : ∀ k, (swK bs ps kf wr nb p st k).length ≤ k * 6 ^ p := by
        intro k
        induction k with
        | zero => simp [swK]
        | succ k ihk =>
          cases e : tkS bs ps kf wr st k
          · rw [swK_no e, Nat.succ_mul]; exact Nat.le_trans ihk (Nat.le_add_right _ _)
          · rw [swK_yes e, List.length_append, Nat.succ_mul]
            exact Nat.add_le_add (ihk) (ih (stS bs ps kf st k))
      refine Nat.le_trans (this nb) ?_
      rw [Nat.pow_succ, Nat.mul_comm]
      exact Nat.mul_le_mul_left _ ok.hb
  unfold swA
  rw [ok.bl]
  refine Nat.le_trans (h _ _) (Nat.le_trans (Nat.pow_le_pow_right (by omega) (show ps.length ≤ 8 by rw [ok.pl]; exact ok.hp)) (by decide))
theorem swL_of_len {bs : List Br} {ps : List Pc} {kf wr : Int} {nb : Nat} : ∀ (p : Nat) (st x : Sw), x ∈ swL bs ps kf wr nb p st → x.of.length = st.of.length + p := by
  intro p
  induction p with
  | zero => intro st x h; simp [swL] at h; rw [h]; rfl
  | succ p ih =>
    intro st x h
    rw [swL_succ, swK, List.mem_flatMap] at h
    obtain ⟨bar, -, h⟩ := h
    cases e : tkS bs ps kf wr st bar <;> rw [e] at h
    · simp at h
    · have := ih _ x h
      simp only [stS, List.length_append, List.length_cons, List.length_nil] at this
      omega
theorem swA_of_len {bs : List Br} {ps : List Pc} {kf wr : Int} {x : Sw} (h : x ∈ swA bs ps kf wr) : x.of.length = ps.length := by
  have := swL_of_len _ _ x h
  simpa [sw0] using this
def manyR (bs : List Br) (ps : List Pc) (kf wr : Int) : Int := bif askE bs ps kf wr true == 0 then ((swA bs ps kf wr).length : Int) else 0
def cntL {α : Type} (p : α → Bool) (L : List α) (k : Nat) : Nat := (L.take k).countP p
theorem cntL_0 {α : Type} (p : α → Bool) (L : List α) : cntL p L 0 = 0 := by simp [cntL]
theorem cntL_succ {α : Type} {p : α → Bool} {L : List α} {k : Nat} {x : α} (h : L[k]? = some x) : cntL p L (k + 1) = cntL p L k + (bif p x then 1 else 0) := by
  unfold cntL
  rw [List.take_add_one, h, List.countP_append]
  cases e : p x <;> simp [e]
theorem cntL_all {α : Type} (p : α → Bool) (L : List α) : cntL p L L.length = L.countP p := by simp [cntL]
theorem cntL_le {α : Type} (p : α → Bool) (L : List α) (k : Nat) : cntL p L k ≤ L.length := Nat.le_trans List.countP_le_length (by rw [List.length_take]; omega)

end Go.Proofs.Ytdhlnlmhdacblaa

namespace Go.Proofs.Ytdhlnlmhdacblaa
open Go.RowKit
open Go.Sort (grow)
set_option linter.unusedVariables false
set_option linter.unusedSimpArgs false

def allL (nb : Nat) : Nat → List (List Nat)
  | 0 => [[]]
  | p + 1 => (List.range nb).flatMap fun b => (allL nb p).map (b :: ·)
theorem allL_mem {nb : Nat} : ∀ {p : Nat} {l : List Nat}, l ∈ allL nb p ↔ l.length = p ∧ ∀ b ∈ l, b < nb := by
  intro p
  induction p with
  | zero =>
    intro l
    simp only [allL, List.mem_singleton]
    exact ⟨fun h => by subst h; simp, fun h => List.eq_nil_of_length_eq_zero h.1⟩
  | succ p ih =>
    intro l
    simp only [allL, List.mem_flatMap, List.mem_map, List.mem_range]
    constructor
    · rintro ⟨b, hb, m, hm, rfl⟩
      obtain ⟨h1, h2⟩ := ih.1 hm
      refine ⟨by simp [h1], fun c hc => ?_⟩
      rcases List.mem_cons.1 hc with rfl | hc
      · exact hb
      · exact h2 c hc
    · rintro ⟨h1, h2⟩
      cases l with
      | nil => simp at h1
      | cons b m => exact ⟨b, h2 b (by simp), m, ih.2 ⟨by simpa using h1, fun c hc => h2 c (by simp [hc])⟩, rfl⟩
theorem allL_nodup (nb : Nat) : ∀ p : Nat, (allL nb p).Nodup := by
  intro p
  induction p with
  | zero => simp [allL]
  | succ p ih =>
    simp only [allL]
    unfold List.Nodup
    rw [List.pairwise_flatMap]
    refine ⟨fun b _ => ?_, ?_⟩
    · refine List.Pairwise.map _ (fun x y h => ?_) ih
      simpa using h
    · refine List.Pairwise.imp ?_ List.nodup_range
      intro a b hab l h1 l2 h2 h
      subst h
      simp only [List.mem_map] at h1 h2
      obtain ⟨x, -, rfl⟩ := h1
      obtain ⟨y, -, h⟩ := h2
      simp at h
      exact hab h.1.symm
def smB (ps : List Pc) (l : List Nat) (b : Nat) : Int := ((ps.zip l).map fun x => bif x.2 == b then x.1.long else 0).sum
def rsB (bs : List Br) (ps : List Pc) (kf : Int) (l : List Nat) (b : Nat) : Int := (brAt bs b).long - smB ps l b - kf * ((l.count b - 1 : Nat) : Int)
def wgB (bs : List Br) (ps : List Pc) (l : List Nat) : Nat := (ps.zip l).countP fun x => !hasI x.1.hs (brAt bs x.2).heat
def fitB (bs : List Br) (ps : List Pc) (kf : Int) (l : List Nat) : Bool := allN bs.length fun b => decide (0 ≤ rsB bs ps kf l b)
def okB (bs : List Br) (ps : List Pc) (kf most : Int) (l : List Nat) : Bool := fitB bs ps kf l && decide ((wgB bs ps l : Int) ≤ most)
def toI (l : List Nat) : List Int := l.map fun (k : Nat) => (k : Int)
def swOf (bs : List Br) (ps : List Pc) (kf : Int) (l : List Nat) : Sw :=
  ⟨toI l, (List.range bs.length).map (rsB bs ps kf l), (List.range bs.length).map (fun b => (l.count b : Int)), (wgB bs ps l : Int)⟩
/-- the truths (at most so many wrong marks), in order -/
def trL (bs : List Br) (ps : List Pc) (kf most : Int) : List (List Nat) := (allL bs.length ps.length).filter (okB bs ps kf most)
theorem zip_snoc : ∀ (ps : List Pc) (a : List Nat) (c : Nat), a.length < ps.length → ps.zip (a ++ [c]) = ps.zip a ++ [(pcAt ps a.length, c)]
  | [], a, c, h => by simp at h
  | q :: ps, [], c, _ => by simp [pcAt]
  | q :: ps, b :: a, c, h => by
    have := zip_snoc ps a c (by simpa using h)
    simp only [List.cons_append, List.zip_cons_cons, this, List.length_cons]
    rfl
theorem iAt_mapR {n k : Nat} {f : Nat → Int} (h : k < n) : iAt ((List.range n).map f) k = f k := by
  unfold iAt
  rw [List.getD_eq_getElem?_getD, List.getElem?_map, List.getElem?_range h]
  rfl
section
variable {bs : List Br} {ps : List Pc} {kf most : Int} {a l : List Nat} {b c : Nat}
theorem smB_snoc (h : a.length < ps.length) : smB ps (a ++ [c]) b = smB ps a b + (bif c == b then (pcAt ps a.length).long else 0) := by
  unfold smB
  rw [zip_snoc ps a c h, List.map_append, List.sum_append]
  simp
theorem count_snoc : (a ++ [c]).count b = a.count b + (bif c == b then 1 else 0) := by
  rw [List.count_append, List.count_singleton]
  cases c == b <;> rfl
theorem rsB_same (h : a.length < ps.length) : rsB bs ps kf (a ++ [c]) c = rsB bs ps kf a c - (pcAt ps a.length).long - (bif decide (0 < (a.count c : Int)) then kf else 0) := by
  unfold rsB
  rw [smB_snoc h, count_snoc]
  simp only [beq_self_eq_true, cond_true, Nat.add_sub_cancel]
  rcases Nat.eq_zero_or_pos (a.count c) with e | e
  · rw [e]
    simp
    omega
  · have e1 : decide (0 < (a.count c : Int)) = true := decide_eq_true (by omega)
    rw [e1]
    obtain ⟨m, hm⟩ := Nat.exists_eq_succ_of_ne_zero (Nat.ne_of_gt e)
    rw [hm]
    simp only [Nat.succ_eq_add_one, Nat.add_sub_cancel, cond_true]
    rw [show ((m + 1 : Nat) : Int) = (m : Int) + 1 from rfl, Int.mul_add]
    omega
theorem rsB_ne (h : a.length < ps.length) (e : c ≠ b) : rsB bs ps kf (a ++ [c]) b = rsB bs ps kf a b := by
  unfold rsB
  have e1 : (c == b) = false := by simpa using e
  rw [smB_snoc h, count_snoc, e1]
  simp
theorem wgB_snoc (h : a.length < ps.length) : wgB bs ps (a ++ [c]) = wgB bs ps a + (bif wrB bs ps a.length c then 1 else 0) := by
  unfold wgB
  rw [zip_snoc ps a c h, List.countP_append, List.countP_singleton]
  unfold wrB
  cases hasI (pcAt ps a.length).hs (brAt bs c).heat <;> rfl
theorem toI_len : (toI l).length = l.length := by simp [toI]
theorem stS_of (h : a.length < ps.length) (hc : c < bs.length) : stS bs ps kf (swOf bs ps kf a) c = swOf bs ps kf (a ++ [c]) := by
  unfold stS swOf
  simp only [toI_len, iAt_mapR hc]
  congr 1
  · simp [toI]
  · refine List.ext_getElem (by simp) fun i h1 h2 => ?_
    simp only [List.length_set, List.length_map, List.length_range] at h1
    rw [List.getElem_set]
    by_cases e : c = i
    · subst e
      rw [if_pos rfl, List.getElem_map, List.getElem_range, rsB_same h]
    · rw [if_neg e, List.getElem_map, List.getElem_range, List.getElem_map, List.getElem_range, rsB_ne h e]
  · refine List.ext_getElem (by simp) fun i h1 h2 => ?_
    simp only [List.length_set, List.length_map, List.length_range] at h1
    rw [List.getElem_set]
    by_cases e : c = i
    · subst e
      rw [if_pos rfl, List.getElem_map, List.getElem_range, count_snoc]
      simp
    · have e1 : (c == i) = false := by simpa using e
      rw [if_neg e, List.getElem_map, List.getElem_range, List.getElem_map, List.getElem_range, count_snoc, e1]
      simp
  · rw [wgB_snoc h]
    cases wrB bs ps a.length c <;> simp
theorem fitB_iff : fitB bs ps kf l = true ↔ ∀ b, b < bs.length → 0 ≤ rsB bs ps kf l b := by
  unfold fitB
  rw [allN_iff]
  simp
theorem okB_iff : okB bs ps kf most l = true ↔ (∀ b, b < bs.length → 0 ≤ rsB bs ps kf l b) ∧ (wgB bs ps l : Int) ≤ most := by
  unfold okB
  rw [Bool.and_eq_true, fitB_iff]
  simp
theorem tkS_of (h : a.length < ps.length) (hc : c < bs.length) (ha : okB bs ps kf most a = true) : tkS bs ps kf most (swOf bs ps kf a) c = okB bs ps kf most (a ++ [c]) := by
  unfold tkS
  rw [stS_of h hc]
  rw [Bool.eq_iff_iff, okB_iff, Bool.and_eq_true]
  rw [okB_iff] at ha
  have e : fitS kf (swOf bs ps kf a) c (pcAt ps (swOf bs ps kf a).of.length).long = true ↔ 0 ≤ rsB bs ps kf (a ++ [c]) c := by
    unfold fitS
    rw [rsB_same h]
    simp only [swOf, toI_len, iAt_mapR hc]
    cases decide (0 < (a.count c : Int)) <;> simp <;> omega
  rw [e]
  simp only [decide_eq_true_eq]
  constructor
  · rintro ⟨h1, h2⟩
    refine ⟨fun b hb => ?_, h2⟩
    by_cases e : c = b
    · subst e; exact h1
    · rw [rsB_ne h e]; exact ha.1 b hb
  · exact fun h => ⟨h.1 c hc, h.2⟩
theorem okB_pre1 (hk : 0 ≤ kf) (hp : ∀ k, k < ps.length → 0 ≤ (pcAt ps k).long) (h : a.length < ps.length) (ho : okB bs ps kf most (a ++ [c]) = true) : okB bs ps kf most a = true := by
  rw [okB_iff] at ho ⊢
  refine ⟨fun b hb => ?_, ?_⟩
  · have h1 := ho.1 b hb
    by_cases e : c = b
    · subst e
      rw [rsB_same h] at h1
      have := hp a.length h
      revert h1
      cases decide (0 < (a.count c : Int)) <;> simp <;> omega
    · rw [rsB_ne h e] at h1; exact h1
  · have h1 := ho.2
    rw [wgB_snoc h] at h1
    omega
theorem okB_pre (hk : 0 ≤ kf) (hp : ∀ k, k < ps.length → 0 ≤ (pcAt ps k).long) : ∀ (l : List Nat) (a : List Nat), a.length + l.length ≤ ps.length → okB bs ps kf most (a ++ l) = true → okB bs ps kf most a = true := by
  intro l
  induction l with
  | nil => intro a _ h; simpa using h
  | cons c l ih =>
    intro a hl h
    have : a ++ c :: l = (a ++ [c]) ++ l := by simp
    rw [this] at h
    exact okB_pre1 hk hp (by simp at hl; omega) (ih (a ++ [c]) (by simp at hl ⊢; omega) h)
theorem swL_of (hk : 0 ≤ kf) (hp : ∀ k, k < ps.length → 0 ≤ (pcAt ps k).long) : ∀ (p : Nat) (a : List Nat), a.length + p = ps.length → okB bs ps kf most a = true →
    swL bs ps kf most bs.length p (swOf bs ps kf a) = ((allL bs.length p).filter fun l => okB bs ps kf most (a ++ l)).map fun l => swOf bs ps kf (a ++ l) := by
  intro p
  induction p with
  | zero => intro a _ h; simp [swL, allL, h]
  | succ p ih =>
    intro a hl ha
    simp only [swL, allL]
    rw [List.filter_flatMap, List.map_flatMap]
    unfold List.flatMap
    congr 1
    refine List.map_congr_left fun c hc => ?_
    have hc := List.mem_range.1 hc
    have h1 : a.length < ps.length := by omega
    rw [tkS_of h1 hc ha, stS_of h1 hc, List.filter_map, List.map_map]
    have hcat : ∀ l : List Nat, a ++ c :: l = (a ++ [c]) ++ l := fun l => by simp
    cases e : okB bs ps kf most (a ++ [c])
    · have : ((allL bs.length p).filter ((fun l => okB bs ps kf most (a ++ l)) ∘ (c :: ·))) = [] := by
        rw [List.filter_eq_nil_iff]
        intro l hl2 h
        simp only [Function.comp] at h
        rw [hcat] at h
        have := okB_pre hk hp l (a ++ [c]) (by have := (allL_mem.1 hl2).1; simp; omega) h
        rw [this] at e
        cases e
      rw [this]
      rfl
    · simp only [cond_true]
      rw [ih (a ++ [c]) (by simp; omega) e]
      have f1 : ((fun l => okB bs ps kf most (a ++ l)) ∘ (c :: ·)) = fun l => okB bs ps kf most (a ++ [c] ++ l) := funext fun l => by simp only [Function.comp]; rw [hcat]
      have f2 : ((fun l => swOf bs ps kf (a ++ l)) ∘ (c :: ·)) = fun l => swOf bs ps kf (a ++ [c] ++ l) := funext fun l => by simp only [Function.comp]; rw [hcat]
      rw [f1, f2]
end
theorem swA_tr {bs : List Br} {ps : List Pc} {kf most : Int} (hk : 0 ≤ kf) (hp : ∀ k, k < ps.length → 0 ≤ (pcAt ps k).long) (hb : ∀ k, k < bs.length → 0 ≤ (brAt bs k).long) (hm : 0 ≤ most) :
    swA bs ps kf most = (trL bs ps kf most).map (swOf bs ps kf) := by
  have h0 : ∀ b, rsB bs ps kf [] b = (brAt bs b).long := fun b => by simp [rsB, smB]
  have e0 : sw0 bs = swOf bs ps kf [] := by
    unfold sw0 swOf
    congr 1
    · refine List.ext_getElem (by simp) fun i h1 h2 => ?_
      simp only [List.length_map] at h1
      rw [List.getElem_map, List.getElem_map, List.getElem_range, h0]
      unfold brAt
      rw [List.getD_eq_getElem?_getD, List.getElem?_eq_getElem h1]
      rfl
    · refine List.ext_getElem (by simp) fun i h1 h2 => ?_
      simp
    · simp [wgB]
  have ok : okB bs ps kf most [] = true := by
    rw [okB_iff]
    refine ⟨fun b hb' => by rw [h0]; exact hb b hb', by simpa [wgB] using hm⟩
  unfold swA
  rw [e0, swL_of hk hp ps.length [] (by simp) ok]
  simp only [List.nil_append]
  rfl

end Go.Proofs.Ytdhlnlmhdacblaa
