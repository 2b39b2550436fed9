/- known of bars (layer 1): whether something is so in all truths, in none, or in some; Alike and Room of bars (layer 1); What a valid store's truths say, in plain terms (layer 1); Fewest of bars (layer 1); A region that draws its order, by an invariant: what is known of the frame and the world once some of its operations have come up, in whatever order. -/
import Derived.BigRegionIn
import Derived.Shelf.RegionOpen
import Derived.Test.YtdhlnlmhdacblaaTs11
import Derived.Test.YtdhlnlmhdacblaaTs02
namespace Go.Proofs.Ytdhlnlmhdacblaa
open Go.RowKit
open Go.Sort (grow)
set_option linter.unusedVariables false
set_option linter.unusedSimpArgs false

attribute [local go_sem] Oper.semAt_some
def knP {α : Type} (p : α → Bool) (L : List α) : Int := bif ((L.countP fun x => !p x) == 0) then 1 else bif (L.countP p == 0) then 2 else 3

end Go.Proofs.Ytdhlnlmhdacblaa

namespace Go.Proofs.Ytdhlnlmhdacblaa
open Go.RowKit
open Go.Sort (grow)
set_option linter.unusedVariables false
set_option linter.unusedSimpArgs false

def roomP (bs : List Br) (ps : List Pc) (kf wr lg : Int) : Int × Int :=
  bif askE bs ps kf wr (wi lg 1 999) == 0 then (knP (fun x => anyN bs.length fun k => fitS kf x k lg) (swA bs ps kf wr), 0) else (0, askE bs ps kf wr (wi lg 1 999))
theorem within_b (n a b : Int) (w : World) :
    Calls Try.prog 102 #[.int .i64 n, .int .i64 a, .int .i64 b] w fun e w' => e = .returned (.bool (wi n a b)) ∧ Below w.heap.size w w' := (within_c n a b w).mono fun e w' h => ⟨h.1, h.2 ▸ Below.refl _ _⟩
def alikeP (bs : List Br) (ps : List Pc) (kf wr a c : Int) : Int × Int :=
  bif askE bs ps kf wr (wi a 0 ((ps.length : Int) - 1) && wi c 0 ((ps.length : Int) - 1)) == 0 then (knP (fun x => iAt x.of a.toNat == iAt x.of c.toNat) (swA bs ps kf wr), 0) else (0, askE bs ps kf wr (wi a 0 ((ps.length : Int) - 1) && wi c 0 ((ps.length : Int) - 1)))

end Go.Proofs.Ytdhlnlmhdacblaa

namespace Go.Proofs.Ytdhlnlmhdacblaa
open Go.RowKit
open Go.Sort (grow)
set_option linter.unusedVariables false
set_option linter.unusedSimpArgs false

theorem ckS_vals {bs : List Br} {ps : List Pc} {kf wr : Int} (h : ckS bs ps kf wr = true) :
    bs.length ≤ 6 ∧ ps.length ≤ 8 ∧ (0 ≤ kf ∧ kf ≤ 20) ∧ (0 ≤ wr ∧ wr ≤ 8) ∧ (∀ k, k < bs.length → (0 ≤ (brAt bs k).heat ∧ (brAt bs k).heat ≤ 9) ∧ 1 ≤ (brAt bs k).long ∧ (brAt bs k).long ≤ 999) ∧
      ∀ k, k < ps.length → (1 ≤ (pcAt ps k).long ∧ (pcAt ps k).long ≤ 999) ∧ ckH (pcAt ps k).hs = true := by
  unfold ckS at h
  simp only [Bool.and_eq_true, decide_eq_true_eq, wi_true, allN_iff] at h
  obtain ⟨⟨h1, h2, h4, h5⟩, h6, h7⟩ := h
  exact ⟨h1, h2, h4, h5, h6, h7⟩
theorem swA_ok {bs : List Br} {ps : List Pc} {kf wr : Int} (h : ckS bs ps kf wr = true) {most : Int} (hm : 0 ≤ most) : swA bs ps kf most = (trL bs ps kf most).map (swOf bs ps kf) := by
  obtain ⟨-, -, h4, h5, h6, h7⟩ := ckS_vals h
  exact swA_tr h4.1 (fun k hk => by have := (h7 k hk).1; omega) (fun k hk => by have := (h6 k hk).2; omega) hm
theorem trL_mem {bs : List Br} {ps : List Pc} {kf most : Int} {l : List Nat} : l ∈ trL bs ps kf most ↔ (l.length = ps.length ∧ ∀ b ∈ l, b < bs.length) ∧ okB bs ps kf most l = true := by
  unfold trL
  rw [List.mem_filter, allL_mem]
theorem askE_ok {bs : List Br} {ps : List Pc} {kf wr : Int} (h : ckS bs ps kf wr = true) : askE bs ps kf wr true = if trL bs ps kf wr = [] then 3 else 0 := by
  obtain ⟨-, -, h4, h5, h6, h7⟩ := ckS_vals h
  unfold askE
  rw [h, swA_ok h h5.1]
  cases e : trL bs ps kf wr <;> rfl
theorem manyR_ok {bs : List Br} {ps : List Pc} {kf wr : Int} (h : ckS bs ps kf wr = true) : manyR bs ps kf wr = (trL bs ps kf wr).length := by
  obtain ⟨-, -, h4, h5, h6, h7⟩ := ckS_vals h
  unfold manyR
  rw [askE_ok h, swA_ok h h5.1]
  cases e : trL bs ps kf wr <;> simp
theorem knP_map {p : Sw → Bool} {bs : List Br} {ps : List Pc} {kf : Int} {L : List (List Nat)} : knP p (L.map (swOf bs ps kf)) = knP (fun l => p (swOf bs ps kf l)) L := by
  unfold knP
  rw [List.countP_map, List.countP_map]
  rfl
theorem knP_some {α : Type} {p : α → Bool} {L : List α} (hL : L ≠ []) : (knP p L == 1 || knP p L == 3) = L.any p := by
  unfold knP
  rw [Bool.eq_iff_iff, List.any_eq_true]
  cases e1 : ((L.countP fun x => !p x) == 0)
  · cases e2 : (L.countP p == 0)
    · simp only [cond_false]
      have h : 0 < L.countP p := Nat.pos_of_ne_zero (by simpa only [beq_eq_false_iff_ne, ne_eq] using e2)
      rw [List.countP_pos_iff] at h
      exact ⟨fun _ => h, fun _ => by decide⟩
    · simp only [cond_false, cond_true]
      have h : L.countP p = 0 := by simpa only [beq_iff_eq] using e2
      rw [List.countP_eq_zero] at h
      constructor
      · intro h'; exact absurd h' (by decide)
      · rintro ⟨x, hx, hp⟩; exact absurd hp (h x hx)
  · simp only [cond_true]
    have h : (L.countP fun x => !p x) = 0 := by simpa only [beq_iff_eq] using e1
    rw [List.countP_eq_zero] at h
    obtain ⟨x, hx⟩ := List.exists_mem_of_ne_nil L hL
    refine ⟨fun _ => ⟨x, hx, ?_⟩, fun _ => by decide⟩
    have := h x hx
    simpa using this
-- one more piece at the end
section
variable {bs : List Br} {ps : List Pc} {q : Pc} {kf most : Int} {l : List Nat} {b c : Nat}
theorem zip_more : ∀ (ps : List Pc) (l : List Nat), l.length ≤ ps.length → (ps ++ [q]).zip l = ps.zip l
  | _, [], _ => by simp
  | [], c :: l, h => by simp at h
  | p :: ps, c :: l, h => by
    simp only [List.cons_append, List.zip_cons_cons]
    rw [zip_more ps l (by simpa using h)]
theorem rsB_more (h : l.length ≤ ps.length) : rsB bs (ps ++ [q]) kf l b = rsB bs ps kf l b := by
  unfold rsB smB
  rw [zip_more ps l h]
theorem wgB_more (h : l.length ≤ ps.length) : wgB bs (ps ++ [q]) l = wgB bs ps l := by
  unfold wgB
  rw [zip_more ps l h]
theorem okB_more (h : l.length ≤ ps.length) : okB bs (ps ++ [q]) kf most l = okB bs ps kf most l := by
  rw [Bool.eq_iff_iff, okB_iff, okB_iff, wgB_more h]
  simp only [rsB_more h]
end
def htA : List Int := [0, 1, 2, 3, 4, 5, 6, 7, 8, 9]
theorem htA_has {h : Int} (h0 : 0 ≤ h) (h9 : h ≤ 9) : hasI htA h = true := by
  have : h = 0 ∨ h = 1 ∨ h = 2 ∨ h = 3 ∨ h = 4 ∨ h = 5 ∨ h = 6 ∨ h = 7 ∨ h = 8 ∨ h = 9 := by omega
  rcases this with rfl | rfl | rfl | rfl | rfl | rfl | rfl | rfl | rfl | rfl <;> decide
theorem room_iff {bs : List Br} {ps : List Pc} {kf wr lg : Int} (h : ckS bs ps kf wr = true) (hlg : 0 ≤ lg) :
    trL bs (ps ++ [⟨lg, htA⟩]) kf wr ≠ [] ↔ ∃ l, l ∈ trL bs ps kf wr ∧ (anyN bs.length fun k => fitS kf (swOf bs ps kf l) k lg) = true := by
  obtain ⟨-, -, h4, h5, h6, h7⟩ := ckS_vals h
  have hlen : (ps ++ [(⟨lg, htA⟩ : Pc)]).length = ps.length + 1 := by simp
  have hat : pcAt (ps ++ [(⟨lg, htA⟩ : Pc)]) ps.length = ⟨lg, htA⟩ := by
    unfold pcAt; rw [List.getD_eq_getElem?_getD, List.getElem?_append_right (Nat.le_refl _), Nat.sub_self]; rfl
  -- fits of the last piece
  have key : ∀ (l : List Nat) (c : Nat), l.length = ps.length → c < bs.length → okB bs ps kf wr l = true →
      (okB bs (ps ++ [⟨lg, htA⟩]) kf wr (l ++ [c]) = true ↔ fitS kf (swOf bs ps kf l) c lg = true) := by
    intro l c hl hc ho
    have hl1 : l.length < (ps ++ [(⟨lg, htA⟩ : Pc)]).length := by omega
    rw [okB_iff, wgB_snoc hl1, wgB_more (by omega)]
    rw [okB_iff] at ho
    have hw : wrB bs (ps ++ [⟨lg, htA⟩]) l.length c = false := by
      unfold wrB
      rw [hl, hat, htA_has (h6 c hc).1.1 (h6 c hc).1.2]
      rfl
    rw [hw]
    have e : 0 ≤ rsB bs (ps ++ [⟨lg, htA⟩]) kf (l ++ [c]) c ↔ fitS kf (swOf bs ps kf l) c lg = true := by
      rw [rsB_same hl1, rsB_more (by omega), hl, hat]
      unfold fitS
      simp only [swOf, iAt_mapR hc]
      cases decide (0 < (l.count c : Int)) <;> simp <;> omega
    rw [← e]
    constructor
    · exact fun h => h.1 c hc
    · intro h
      refine ⟨fun b hb => ?_, by simpa using ho.2⟩
      by_cases e : c = b
      · subst e; exact h
      · rw [rsB_ne hl1 e, rsB_more (by omega)]; exact ho.1 b hb
  constructor
  · intro hne
    obtain ⟨m, hm⟩ := List.exists_mem_of_ne_nil _ hne
    obtain ⟨⟨hml, hmb⟩, hmo⟩ := trL_mem.1 hm
    rw [hlen] at hml
    obtain ⟨l, c, rfl⟩ : ∃ l c, m = l ++ [c] := ⟨m.dropLast, m.getLast (by intro e; rw [e] at hml; simp at hml), (List.dropLast_concat_getLast _).symm⟩
    have hll : l.length = ps.length := by simpa using hml
    have hc : c < bs.length := hmb c (by simp)
    have hpre : okB bs ps kf wr l = true := by
      rw [← okB_more (q := ⟨lg, htA⟩) (by omega)]
      refine okB_pre1 (c := c) h4.1 (fun k hk => ?_) (by rw [hlen]; omega) hmo
      rcases Nat.lt_or_ge k ps.length with hk' | hk'
      · have : pcAt (ps ++ [(⟨lg, htA⟩ : Pc)]) k = pcAt ps k := by
          unfold pcAt; rw [List.getD_eq_getElem?_getD, List.getD_eq_getElem?_getD, List.getElem?_append_left hk']
        rw [this]
        have := (h7 k hk').1
        omega
      · obtain rfl : k = ps.length := by rw [hlen] at hk; omega
        rw [hat]
        exact hlg
    exact ⟨l, trL_mem.2 ⟨⟨hll, fun b hb => hmb b (by simp [hb])⟩, hpre⟩, anyN_yes hc ((key l c hll hc hpre).1 hmo)⟩
  · rintro ⟨l, hl, ha⟩ e
    obtain ⟨⟨hll, hlb⟩, hlo⟩ := trL_mem.1 hl
    obtain ⟨c, hc, hf⟩ : ∃ c, c < bs.length ∧ fitS kf (swOf bs ps kf l) c lg = true := by
      apply Classical.byContradiction
      intro hn
      rw [anyN_no fun k hk => by
        cases e : fitS kf (swOf bs ps kf l) k lg
        · rfl
        · exact absurd ⟨k, hk, e⟩ hn] at ha
      cases ha
    have : l ++ [c] ∈ trL bs (ps ++ [⟨lg, htA⟩]) kf wr := trL_mem.2 ⟨⟨by simp [hll], fun b hb => by
      rcases List.mem_append.1 hb with hb | hb
      · exact hlb b hb
      · rw [List.mem_singleton.1 hb]; exact hc⟩, (key l c hll hc hlo).2 hf⟩
    rw [e] at this
    cases this
/-- what BarsRoom asks -/
theorem room_law {bs : List Br} {ps : List Pc} {kf wr lg : Int} (h : ckS bs ps kf wr = true) (hl : wi lg 1 999 = true) (ho : ckS bs (ps ++ [⟨lg, htA⟩]) kf wr = true) :
    ((roomP bs ps kf wr lg).2 = 3 ∧ askE bs (ps ++ [⟨lg, htA⟩]) kf wr true = 3) ∨
    ((roomP bs ps kf wr lg).2 = 0 ∧ ((askE bs (ps ++ [⟨lg, htA⟩]) kf wr true = 0 ∧ 0 < manyR bs (ps ++ [⟨lg, htA⟩]) kf wr ∧ ((roomP bs ps kf wr lg).1 = 1 ∨ (roomP bs ps kf wr lg).1 = 3)) ∨
      (askE bs (ps ++ [⟨lg, htA⟩]) kf wr true = 3 ∧ (roomP bs ps kf wr lg).1 = 2))) := by
  obtain ⟨-, -, h4, h5, h6, h7⟩ := ckS_vals h
  have hlg := (wi_true.1 hl).1
  have hr := room_iff (bs := bs) (ps := ps) (kf := kf) (wr := wr) (lg := lg) h (by omega)
  have e1 : roomP bs ps kf wr lg = if trL bs ps kf wr = [] then (0, 3) else (knP (fun l => anyN bs.length fun k => fitS kf (swOf bs ps kf l) k lg) (trL bs ps kf wr), 0) := by
    unfold roomP
    rw [hl, askE_ok h, swA_ok h h5.1, knP_map]
    split <;> rfl
  rw [e1, askE_ok ho, manyR_ok ho]
  by_cases e : trL bs ps kf wr = []
  · rw [if_pos e]
    have : trL bs (ps ++ [⟨lg, htA⟩]) kf wr = [] := by
      apply Classical.byContradiction
      intro hn
      obtain ⟨l, hl, -⟩ := hr.1 hn
      rw [e] at hl
      cases hl
    rw [if_pos this]
    exact .inl ⟨rfl, rfl⟩
  · rw [if_neg e]
    have hk := knP_some (p := fun l => anyN bs.length fun k => fitS kf (swOf bs ps kf l) k lg) e
    by_cases e2 : trL bs (ps ++ [⟨lg, htA⟩]) kf wr = []
    · rw [if_pos e2]
      refine .inr ⟨rfl, .inr ⟨rfl, ?_⟩⟩
      have hno : ((trL bs ps kf wr).any fun l => anyN bs.length fun k => fitS kf (swOf bs ps kf l) k lg) = false := by
        cases ea : ((trL bs ps kf wr).any fun l => anyN bs.length fun k => fitS kf (swOf bs ps kf l) k lg)
        · rfl
        · obtain ⟨l, hl, hf⟩ := List.any_eq_true.1 ea
          exact absurd e2 (hr.2 ⟨l, hl, hf⟩)
      rw [hno] at hk
      show knP _ _ = 2
      revert hk
      unfold knP
      cases ((trL bs ps kf wr).countP fun l => !anyN bs.length fun k => fitS kf (swOf bs ps kf l) k lg) == 0 <;> cases (trL bs ps kf wr).countP (fun l => anyN bs.length fun k => fitS kf (swOf bs ps kf l) k lg) == 0 <;> simp
    · rw [if_neg e2]
      refine .inr ⟨rfl, .inl ⟨rfl, ?_, ?_⟩⟩
      · have := List.length_pos_iff.2 e2
        omega
      · obtain ⟨l, hl, hf⟩ := hr.1 e2
        rw [List.any_eq_true.2 ⟨l, hl, hf⟩] at hk
        simpa using hk

end Go.Proofs.Ytdhlnlmhdacblaa

namespace Go.Proofs.Ytdhlnlmhdacblaa
open Go.RowKit
open Go.Sort (grow)
set_option linter.unusedVariables false
set_option linter.unusedSimpArgs false

attribute [local go_sem] Oper.semAt_some
/-- what a loop over a list has gathered behind k of its elements -/
def accL {α β : Type} (f : β → α → β) (z : β) (L : List α) (k : Nat) : β := (L.take k).foldl f z
theorem accL_0 {α β : Type} (f : β → α → β) (z : β) (L : List α) : accL f z L 0 = z := by simp [accL]
theorem accL_succ {α β : Type} {f : β → α → β} {z : β} {L : List α} {k : Nat} {x : α} (h : L[k]? = some x) : accL f z L (k + 1) = f (accL f z L k) x := by
  unfold accL
  rw [List.take_add_one, h, List.foldl_append]
  rfl
theorem accL_all {α β : Type} (f : β → α → β) (z : β) (L : List α) : accL f z L L.length = L.foldl f z := by simp [accL]
def lsF (m : Int) (x : Sw) : Int := bif decide (m < 0) || decide (x.wrong < m) then x.wrong else m
def fewP (bs : List Br) (ps : List Pc) (kf wr : Int) : Int × Int :=
  bif ckS bs ps kf wr then (bif decide ((swA bs ps kf 8).foldl lsF (-1) < 0) then (0, 3) else ((swA bs ps kf 8).foldl lsF (-1), 0)) else (0, 10)

end Go.Proofs.Ytdhlnlmhdacblaa

namespace Go.Proofs.Ytdhlnlmhdacblaa
open Go.RowKit
open Go.Sort (grow)
set_option linter.unusedVariables false
set_option linter.unusedSimpArgs false

section
variable {P : Program} {ops : Array Oper} {Q : Exit → Act → World → Prop}
/-- every operation waits for earlier ones alone -/
def waitsBack (ops : Array Oper) : Bool := (List.range ops.size).all fun i => ((ops[i]?).map fun o => o.after.all fun e => !Region.binds .any e || decide (e.on < i)).getD true
theorem ready_all {listed : Array Bool} (hd : waitsBack ops = true) (hs : listed.size = ops.size) (hr : Region.ready .any ops listed = []) : ∀ k, listed.getD k true = true := by
  intro k
  induction k using Nat.strongRecOn with
  | _ k ih =>
    refine Classical.byContradiction fun hn => ?_
    have hk : listed.getD k true = false := by simpa using hn
    have hlt : k < ops.size := by
      refine Classical.byContradiction fun hc => ?_
      rw [Array.getD_eq_getD_getElem?, Array.getElem?_eq_none (by omega)] at hk
      simp at hk
    have hm : k ∈ Region.ready .any ops listed := by
      rw [mem_ready]
      refine ⟨hk, ops[k], Array.getElem?_eq_getElem hlt, fun e he hb => ?_⟩
      unfold waitsBack at hd
      rw [List.all_eq_true] at hd
      have h1 := hd k (by simpa using hlt)
      rw [Array.getElem?_eq_getElem hlt] at h1
      simp only [Option.map_some, Option.getD_some, Array.all_eq_true_iff_forall_mem] at h1
      have h2 := h1 e he
      rw [hb] at h2
      simp only [Bool.not_true, Bool.false_or, decide_eq_true_eq] at h2
      have h3 := ih e.on h2
      rw [Array.getD_eq_getD_getElem?, Array.getElem?_eq_getElem (show e.on < listed.size by omega)] at h3 ⊢
      simpa using h3
    rw [hr] at hm
    cases hm
def left (listed : Array Bool) (n : Nat) : Nat := (List.range n).countP fun k => !listed.getD k true
theorem left_set {listed : Array Bool} {n i : Nat} (hi : i < n) (hs : listed.size = n) (h : listed.getD i true = false) : left (listed.setIfInBounds i true) n < left listed n := by
  subst hs
  unfold left
  have e : ∀ m, m ≤ listed.size → (List.range m).countP (fun k => !(listed.setIfInBounds i true).getD k true) + (if i < m then 1 else 0) = (List.range m).countP (fun k => !listed.getD k true) := fun m => by
    induction m with
    | zero => intro _; simp
    | succ m ih =>
      intro hm
      have h1 := ih (by omega)
      rw [List.range_succ, List.countP_append, List.countP_append]
      by_cases e : m = i
      · subst e
        have e1 : (listed.setIfInBounds m true).getD m true = true := by simp [Array.getD_eq_getD_getElem?, hi]
        rw [if_neg (Nat.lt_irrefl m)] at h1
        rw [if_pos (Nat.lt_succ_self m)]
        simp only [List.countP_singleton, h, e1, Bool.not_true, Bool.not_false, Bool.false_eq_true, if_false, if_true]
        omega
      · have e1 : (listed.setIfInBounds i true).getD m true = listed.getD m true := by
          simp only [Array.getD_eq_getD_getElem?, Array.getElem?_setIfInBounds]
          rw [if_neg (Ne.symm e)]
        simp only [List.countP_singleton, e1]
        by_cases h2 : i < m
        · rw [if_pos h2] at h1
          rw [if_pos (show i < m + 1 by omega)]; omega
        · rw [if_neg h2] at h1
          rw [if_neg (show ¬ i < m + 1 by omega)]; omega
  have := e listed.size (Nat.le_refl _)
  rw [if_pos hi] at this
  omega
theorem getD_set (listed : Array Bool) (n i : Nat) (hi : i < listed.size) : (fun k => (listed.setIfInBounds i true).getD k true) = fun k => k == i || listed.getD k true := by
  funext k
  simp only [Array.getD_eq_getD_getElem?, Array.getElem?_setIfInBounds]
  by_cases e : i = k
  · subst e; simp [hi]
  · rw [if_neg e]
    have : (k == i) = false := by simpa using fun h => e h.symm
    simp [this]
theorem wpAny_inv (J : (Nat → Bool) → Act → World → Prop) (hd : waitsBack ops = true)
    (hstep : ∀ L a w i o, i < ops.size → ops[i]? = some o → L i = false → (∀ e ∈ o.after, Region.binds .any e = true → L e.on = true) → J L a w → wpOp P ops Q i (fun a' w' => J (fun k => k == i || L k) a' w') a w)
    (hdone : ∀ L a w, (∀ k, L k = true) → J L a w → Q .normal a w) :
    ∀ (fuel : Nat) (listed : Array Bool) (a : Act) (w : World), listed.size = ops.size → left listed ops.size ≤ fuel → J (fun k => listed.getD k true) a w → wpAny P .any ops Q fuel listed a w := by
  intro fuel
  induction fuel with
  | zero =>
    intro listed a w hs hl hJ
    have hr : Region.ready .any ops listed = [] := by
      cases h : Region.ready .any ops listed with
      | nil => rfl
      | cons i r =>
        obtain ⟨h1, o, h2, -⟩ := mem_ready.1 (show i ∈ Region.ready .any ops listed by rw [h]; simp)
        have hi : i < ops.size := by
          rcases Array.getElem?_eq_some_iff.1 h2 with ⟨h, -⟩
          exact h
        have := left_set hi hs h1
        omega
    exact ⟨hr, hdone _ _ _ (ready_all hd hs hr) hJ⟩
  | succ fuel ih =>
    intro listed a w hs hl hJ
    refine ⟨fun hr => hdone _ _ _ (ready_all hd hs hr) hJ, fun i hi => ?_⟩
    obtain ⟨h1, o, h2, h3⟩ := mem_ready.1 hi
    have hi' : i < ops.size := by
      rcases Array.getElem?_eq_some_iff.1 h2 with ⟨h, -⟩
      exact h
    refine wpOp_mono (fun a' w' h => ?_) (hstep (fun k => listed.getD k true) a w i o hi' h2 h1 (fun e he hb => ?_) hJ)
    · refine ih _ a' w' (by simpa using hs) (by have := left_set hi' hs h1; omega) ?_
      rw [getD_set listed ops.size i (by omega)]
      exact h
    · have h4 := h3 e he hb
      show listed.getD e.on true = true
      rw [Array.getD_eq_getD_getElem?] at h4 ⊢
      cases h5 : listed[e.on]? with
      | none => rfl
      | some b => rw [h5] at h4; exact h4
/-- THE LAW -/
theorem wp_region_inv {id : Nat} {a : Act} {w : World} (hm : P.follows .mixedOrders = true) (hd : waitsBack ops = true) (J : (Nat → Bool) → Act → World → Prop)
    (h0 : J (fun k => decide (ops.size ≤ k)) a w.drew)
    (hstep : ∀ L a w i o, i < ops.size → ops[i]? = some o → L i = false → (∀ e ∈ o.after, Region.binds .any e = true → L e.on = true) → J L a w → wpOp P ops Q i (fun a' w' => J (fun k => k == i || L k) a' w') a w)
    (hdone : ∀ L a w, (∀ k, L k = true) → J L a w → Q .normal a w) : (Code.region id ops true).wp P Q a w := by
  refine wp_region_any hm (wpAny_inv J hd hstep hdone ops.size _ a _ (by simp) ?_ ?_)
  · unfold left
    exact Nat.le_trans List.countP_le_length (by simp)
  · have e : (fun k => (Array.replicate ops.size false).getD k true) = fun k => decide (ops.size ≤ k) := by
      funext k
      simp only [Array.getD_eq_getD_getElem?, Array.getElem?_replicate]
      by_cases h : k < ops.size
      · rw [if_pos h]; simp; omega
      · rw [if_neg h]; simp; omega
    rw [e]
    exact h0
end

end Go.Proofs.Ytdhlnlmhdacblaa
