/- known of bars (layer 1): whether something is so in all truths, in none, or in some; Alike and Room of bars (layer 1); What a valid store's truths say, in plain terms (layer 1); Fewest of bars (layer 1); Plan of bars (layer 1). -/
import Derived.BigRegionIn
import Derived.Shelf.RegionOpen
import Derived.Test.YtdhlnlmhdacblaaTs11
namespace Go.Proofs.Ytdhlnlmhdacblaa
open Go.RowKit
open Go.Sort (grow)
set_option linter.unusedVariables false
set_option linter.unusedSimpArgs false

attribute [local go_sem] Oper.semAt_some
def knP {α : Type} (p : α → Bool) (L : List α) : Int := bif ((L.countP fun x => !p x) == 0) then 1 else bif (L.countP p == 0) then 2 else 3

end Go.Proofs.Ytdhlnlmhdacblaa

namespace Go.Proofs.Ytdhlnlmhdacblaa
open Go.RowKit
open Go.Sort (grow)
set_option linter.unusedVariables false
set_option linter.unusedSimpArgs false

def roomP (bs : List Br) (ps : List Pc) (kf wr lg : Int) : Int × Int :=
  bif askE bs ps kf wr (wi lg 1 999) == 0 then (knP (fun x => anyN bs.length fun k => fitS kf x k lg) (swA bs ps kf wr), 0) else (0, askE bs ps kf wr (wi lg 1 999))
theorem within_b (n a b : Int) (w : World) :
    Calls Try.prog 102 #[.int .i64 n, .int .i64 a, .int .i64 b] w fun e w' => e = .returned (.bool (wi n a b)) ∧ Below w.heap.size w w' := (within_c n a b w).mono fun e w' h => ⟨h.1, h.2 ▸ Below.refl _ _⟩
def alikeP (bs : List Br) (ps : List Pc) (kf wr a c : Int) : Int × Int :=
  bif askE bs ps kf wr (wi a 0 ((ps.length : Int) - 1) && wi c 0 ((ps.length : Int) - 1)) == 0 then (knP (fun x => iAt x.of a.toNat == iAt x.of c.toNat) (swA bs ps kf wr), 0) else (0, askE bs ps kf wr (wi a 0 ((ps.length : Int) - 1) && wi c 0 ((ps.length : Int) - 1)))

end Go.Proofs.Ytdhlnlmhdacblaa

namespace Go.Proofs.Ytdhlnlmhdacblaa
open Go.RowKit
open Go.Sort (grow)
set_option linter.unusedVariables false
set_option linter.unusedSimpArgs false

theorem ckS_vals {bs : List Br} {ps : List Pc} {kf wr : Int} (h : ckS bs ps kf wr = true) :
    bs.length ≤ 6 ∧ ps.length ≤ 8 ∧ (0 ≤ kf ∧ kf ≤ 20) ∧ (0 ≤ wr ∧ wr ≤ 8) ∧ (∀ k, k < bs.length → (0 ≤ (brAt bs k).heat ∧ (brAt bs k).heat ≤ 9) ∧ 1 ≤ (brAt bs k).long ∧ (brAt bs k).long ≤ 999) ∧
      ∀ k, k < ps.length → (1 ≤ (pcAt ps k).long ∧ (pcAt ps k).long ≤ 999) ∧ ckH (pcAt ps k).hs = true := by
  unfold ckS at h
  simp only [Bool.and_eq_true, decide_eq_true_eq, wi_true, allN_iff] at h
  obtain ⟨⟨h1, h2, h4, h5⟩, h6, h7⟩ := h
  exact ⟨h1, h2, h4, h5, h6, h7⟩
theorem swA_ok {bs : List Br} {ps : List Pc} {kf wr : Int} (h : ckS bs ps kf wr = true) {most : Int} (hm : 0 ≤ most) : swA bs ps kf most = (trL bs ps kf most).map (swOf bs ps kf) := by
  obtain ⟨-, -, h4, h5, h6, h7⟩ := ckS_vals h
  exact swA_tr h4.1 (fun k hk => by have := (h7 k hk).1; omega) (fun k hk => by have := (h6 k hk).2; omega) hm
theorem trL_mem {bs : List Br} {ps : List Pc} {kf most : Int} {l : List Nat} : l ∈ trL bs ps kf most ↔ (l.length = ps.length ∧ ∀ b ∈ l, b < bs.length) ∧ okB bs ps kf most l = true := by
  unfold trL
  rw [List.mem_filter, allL_mem]
theorem askE_ok {bs : List Br} {ps : List Pc} {kf wr : Int} (h : ckS bs ps kf wr = true) : askE bs ps kf wr true = if trL bs ps kf wr = [] then 3 else 0 := by
  obtain ⟨-, -, h4, h5, h6, h7⟩ := ckS_vals h
  unfold askE
  rw [h, swA_ok h h5.1]
  cases e : trL bs ps kf wr <;> rfl
theorem manyR_ok {bs : List Br} {ps : List Pc} {kf wr : Int} (h : ckS bs ps kf wr = true) : manyR bs ps kf wr = (trL bs ps kf wr).length := by
  obtain ⟨-, -, h4, h5, h6, h7⟩ := ckS_vals h
  unfold manyR
  rw [askE_ok h, swA_ok h h5.1]
  cases e : trL bs ps kf wr <;> simp
theorem knP_map {p : Sw → Bool} {bs : List Br} {ps : List Pc} {kf : Int} {L : List (List Nat)} : knP p (L.map (swOf bs ps kf)) = knP (fun l => p (swOf bs ps kf l)) L := by
  unfold knP
  rw [List.countP_map, List.countP_map]
  rfl
theorem knP_some {α : Type} {p : α → Bool} {L : List α} (hL : L ≠ []) : (knP p L == 1 || knP p L == 3) = L.any p := by
  unfold knP
  rw [Bool.eq_iff_iff, List.any_eq_true]
  cases e1 : ((L.countP fun x => !p x) == 0)
  · cases e2 : (L.countP p == 0)
    · simp only [cond_false]
      have h : 0 < L.countP p := Nat.pos_of_ne_zero (by simpa only [beq_eq_false_iff_ne, ne_eq] using e2)
      rw [List.countP_pos_iff] at h
      exact ⟨fun _ => h, fun _ => by decide⟩
    · simp only [cond_false, cond_true]
      have h : L.countP p = 0 := by simpa only [beq_iff_eq] using e2
      rw [List.countP_eq_zero] at h
      constructor
      · intro h'; exact absurd h' (by decide)
      · rintro ⟨x, hx, hp⟩; exact absurd hp (h x hx)
  · simp only [cond_true]
    have h : (L.countP fun x => !p x) = 0 := by simpa only [beq_iff_eq] using e1
    rw [List.countP_eq_zero] at h
    obtain ⟨x, hx⟩ := List.exists_mem_of_ne_nil L hL
    refine ⟨fun _ => ⟨x, hx, ?_⟩, fun _ => by decide⟩
    have := h x hx
    simpa using this
-- one more piece at the end
section
variable {bs : List Br} {ps : List Pc} {q : Pc} {kf most : Int} {l : List Nat} {b c : Nat}
theorem zip_more : ∀ (ps : List Pc) (l : List Nat), l.length ≤ ps.length → (ps ++ [q]).zip l = ps.zip l
  | _, [], _ => by simp
  | [], c :: l, h => by simp at h
  | p :: ps, c :: l, h => by
    simp only [List.cons_append, List.zip_cons_cons]
    rw [zip_more ps l (by simpa using h)]
theorem rsB_more (h : l.length ≤ ps.length) : rsB bs (ps ++ [q]) kf l b = rsB bs ps kf l b := by
  unfold rsB smB
  rw [zip_more ps l h]
theorem wgB_more (h : l.length ≤ ps.length) : wgB bs (ps ++ [q]) l = wgB bs ps l := by
  unfold wgB
  rw [zip_more ps l h]
theorem okB_more (h : l.length ≤ ps.length) : okB bs (ps ++ [q]) kf most l = okB bs ps kf most l := by
  rw [Bool.eq_iff_iff, okB_iff, okB_iff, wgB_more h]
  simp only [rsB_more h]
end
def htA : List Int := [0, 1, 2, 3, 4, 5, 6, 7, 8, 9]
theorem htA_has {h : Int} (h0 : 0 ≤ h) (h9 : h ≤ 9) : hasI htA h = true := by
  have : h = 0 ∨ h = 1 ∨ h = 2 ∨ h = 3 ∨ h = 4 ∨ h = 5 ∨ h = 6 ∨ h = 7 ∨ h = 8 ∨ h = 9 := by omega
  rcases this with rfl | rfl | rfl | rfl | rfl | rfl | rfl | rfl | rfl | rfl <;> decide
theorem room_iff {bs : List Br} {ps : List Pc} {kf wr lg : Int} (h : ckS bs ps kf wr = true) (hlg : 0 ≤ lg) :
    trL bs (ps ++ [⟨lg, htA⟩]) kf wr ≠ [] ↔ ∃ l, l ∈ trL bs ps kf wr ∧ (anyN bs.length fun k => fitS kf (swOf bs ps kf l) k lg) = true := by
  obtain ⟨-, -, h4, h5, h6, h7⟩ := ckS_vals h
  have hlen : (ps ++ [(⟨lg, htA⟩ : Pc)]).length = ps.length + 1 := by simp
  have hat : pcAt (ps ++ [(⟨lg, htA⟩ : Pc)]) ps.length = ⟨lg, htA⟩ := by
    unfold pcAt; rw [List.getD_eq_getElem?_getD, List.getElem?_append_right (Nat.le_refl _), Nat.sub_self]; rfl
  -- fits of the last piece
  have key : ∀ (l : List Nat) (c : Nat), l.length = ps.length → c < bs.length → okB bs ps kf wr l = true →
      (okB bs (ps ++ [⟨lg, htA⟩]) kf wr (l ++ [c]) = true ↔ fitS kf (swOf bs ps kf l) c lg = true) := by
    intro l c hl hc ho
    have hl1 : l.length < (ps ++ [(⟨lg, htA⟩ : Pc)]).length := by omega
    rw [okB_iff, wgB_snoc hl1, wgB_more (by omega)]
    rw [okB_iff] at ho
    have hw : wrB bs (ps ++ [⟨lg, htA⟩]) l.length c = false := by
      unfold wrB
      rw [hl, hat, htA_has (h6 c hc).1.1 (h6 c hc).1.2]
      rfl
    rw [hw]
    have e : 0 ≤ rsB bs (ps ++ [⟨lg, htA⟩]) kf (l ++ [c]) c ↔ fitS kf (swOf bs ps kf l) c lg = true := by
      rw [rsB_same hl1, rsB_more (by omega), hl, hat]
      unfold fitS
      simp only [swOf, iAt_mapR hc]
      cases decide (0 < (l.count c : Int)) <;> simp <;> omega
    rw [← e]
    constructor
    · exact fun h => h.1 c hc
    · intro h
      refine ⟨fun b hb => ?_, by simpa using ho.2⟩
      by_cases e : c = b
      · subst e; exact h
      · rw [rsB_ne hl1 e, rsB_more (by omega)]; exact ho.1 b hb
  constructor
  · intro hne
    obtain ⟨m, hm⟩ := List.exists_mem_of_ne_nil _ hne
    obtain ⟨⟨hml, hmb⟩, hmo⟩ := trL_mem.1 hm
    rw [hlen] at hml
    obtain ⟨l, c, rfl⟩ : ∃ l c, m = l ++ [c] := ⟨m.dropLast, m.getLast (by intro e; rw [e] at hml; simp at hml), (List.dropLast_concat_getLast _).symm⟩
    have hll : l.length = ps.length := by simpa using hml
    have hc : c < bs.length := hmb c (by simp)
    have hpre : okB bs ps kf wr l = true := by
      rw [← okB_more (q := ⟨lg, htA⟩) (by omega)]
      refine okB_pre1 (c := c) h4.1 (fun k hk => ?_) (by rw [hlen]; omega) hmo
      rcases Nat.lt_or_ge k ps.length with hk' | hk'
      · have : pcAt (ps ++ [(⟨lg, htA⟩ : Pc)]) k = pcAt ps k := by
          unfold pcAt; rw [List.getD_eq_getElem?_getD, List.getD_eq_getElem?_getD, List.getElem?_append_left hk']
        rw [this]
        have := (h7 k hk').1
        omega
      · obtain rfl : k = ps.length := by rw [hlen] at hk; omega
        rw [hat]
        exact hlg
    exact ⟨l, trL_mem.2 ⟨⟨hll, fun b hb => hmb b (by simp [hb])⟩, hpre⟩, anyN_yes hc ((key l c hll hc hpre).1 hmo)⟩
  · rintro ⟨l, hl, ha⟩ e
    obtain ⟨⟨hll, hlb⟩, hlo⟩ := trL_mem.1 hl
    obtain ⟨c, hc, hf⟩ : ∃ c, c < bs.length ∧ fitS kf (swOf bs ps kf l) c lg = true := by
      apply Classical.byContradiction
      intro hn
      rw [anyN_no fun k hk => by
        cases e : fitS kf (swOf bs ps kf l) k lg
        · rfl
        · exact absurd ⟨k, hk, e⟩ hn] at ha
      cases ha
    have : l ++ [c] ∈ trL bs (ps ++ [⟨lg, htA⟩]) kf wr := trL_mem.2 ⟨⟨by simp [hll], fun b hb => by
      rcases List.mem_append.1 hb with hb | hb
      · exact hlb b hb
      · rw [List.mem_singleton.1 hb]; exact hc⟩, (key l c hll hc hlo).2 hf⟩
    rw [e] at this
    cases this
/-- what BarsRoom asks -/
theorem room_law {bs : List Br} {ps : List Pc} {kf wr lg : Int} (h : ckS bs ps kf wr = true) (hl : wi lg 1 999 = true) (ho : ckS bs (ps ++ [⟨lg, htA⟩]) kf wr = true) :
    ((roomP bs ps kf wr lg).2 = 3 ∧ askE bs (ps ++ [⟨lg, htA⟩]) kf wr true = 3) ∨
    ((roomP bs ps kf wr lg).2 = 0 ∧ ((askE bs (ps ++ [⟨lg, htA⟩]) kf wr true = 0 ∧ 0 < manyR bs (ps ++ [⟨lg, htA⟩]) kf wr ∧ ((roomP bs ps kf wr lg).1 = 1 ∨ (roomP bs ps kf wr lg).1 = 3)) ∨
      (askE bs (ps ++ [⟨lg, htA⟩]) kf wr true = 3 ∧ (roomP bs ps kf wr lg).1 = 2))) := by
  obtain ⟨-, -, h4, h5, h6, h7⟩ := ckS_vals h
  have hlg := (wi_true.1 hl).1
  have hr := room_iff (bs := bs) (ps := ps) (kf := kf) (wr := wr) (lg := lg) h (by omega)
  have e1 : roomP bs ps kf wr lg = if trL bs ps kf wr = [] then (0, 3) else (knP (fun l => anyN bs.length fun k => fitS kf (swOf bs ps kf l) k lg) (trL bs ps kf wr), 0) := by
    unfold roomP
    rw [hl, askE_ok h, swA_ok h h5.1, knP_map]
    split <;> rfl
  rw [e1, askE_ok ho, manyR_ok ho]
  by_cases e : trL bs ps kf wr = []
  · rw [if_pos e]
    have : trL bs (ps ++ [⟨lg, htA⟩]) kf wr = [] := by
      apply Classical.byContradiction
      intro hn
      obtain ⟨l, hl, -⟩ := hr.1 hn
      rw [e] at hl
      cases hl
    rw [if_pos this]
    exact .inl ⟨rfl, rfl⟩
  · rw [if_neg e]
    have hk := knP_some (p := fun l => anyN bs.length fun k => fitS kf (swOf bs ps kf l) k lg) e
    by_cases e2 : trL bs (ps ++ [⟨lg, htA⟩]) kf wr = []
    · rw [if_pos e2]
      refine .inr ⟨rfl, .inr ⟨rfl, ?_⟩⟩
      have hno : ((trL bs ps kf wr).any fun l => anyN bs.length fun k => fitS kf (swOf bs ps kf l) k lg) = false := by
        cases ea : ((trL bs ps kf wr).any fun l => anyN bs.length fun k => fitS kf (swOf bs ps kf l) k lg)
        · rfl
        · obtain ⟨l, hl, hf⟩ := List.any_eq_true.1 ea
          exact absurd e2 (hr.2 ⟨l, hl, hf⟩)
      rw [hno] at hk
      show knP _ _ = 2
      revert hk
      unfold knP
      cases ((trL bs ps kf wr).countP fun l => !anyN bs.length fun k => fitS kf (swOf bs ps kf l) k lg) == 0 <;> cases (trL bs ps kf wr).countP (fun l => anyN bs.length fun k => fitS kf (swOf bs ps kf l) k lg) == 0 <;> simp
    · rw [if_neg e2]
      refine .inr ⟨rfl, .inl ⟨rfl, ?_, ?_⟩⟩
      · have := List.length_pos_iff.2 e2
        omega
      · obtain ⟨l, hl, hf⟩ := hr.1 e2
        rw [List.any_eq_true.2 ⟨l, hl, hf⟩] at hk
        simpa using hk

end Go.Proofs.Ytdhlnlmhdacblaa

namespace Go.Proofs.Ytdhlnlmhdacblaa
open Go.RowKit
open Go.Sort (grow)
set_option linter.unusedVariables false
set_option linter.unusedSimpArgs false

attribute [local go_sem] Oper.semAt_some
/-- what a loop over a list has gathered behind k of its elements -/
def accL {α β : Type} (f : β → α → β) (z : β) (L : List α) (k : Nat) : β := (L.take k).foldl f z
theorem accL_0 {α β : Type} (f : β → α → β) (z : β) (L : List α) : accL f z L 0 = z := by simp [accL]
theorem accL_succ {α β : Type} {f : β → α → β} {z : β} {L : List α} {k : Nat} {x : α} (h : L[k]? = some x) : accL f z L (k + 1) = f (accL f z L k) x := by
  unfold accL
  rw [List.take_add_one, h, List.foldl_append]
  rfl
theorem accL_all {α β : Type} (f : β → α → β) (z : β) (L : List α) : accL f z L L.length = L.foldl f z := by simp [accL]
def lsF (m : Int) (x : Sw) : Int := bif decide (m < 0) || decide (x.wrong < m) then x.wrong else m
def fewP (bs : List Br) (ps : List Pc) (kf wr : Int) : Int × Int :=
  bif ckS bs ps kf wr then (bif decide ((swA bs ps kf 8).foldl lsF (-1) < 0) then (0, 3) else ((swA bs ps kf 8).foldl lsF (-1), 0)) else (0, 10)

end Go.Proofs.Ytdhlnlmhdacblaa

namespace Go.Proofs.Ytdhlnlmhdacblaa
open Go.RowKit
open Go.Sort (grow)
set_option linter.unusedVariables false
set_option linter.unusedSimpArgs false

attribute [local go_sem] Oper.semAt_some
def usB (nb : Nat) (x : Sw) : Nat := (List.range nb).countP fun k => decide (0 < iAt x.cuts k)
theorem range_get {n k : Nat} (h : k < n) : (List.range n)[k]? = some k := by rw [List.getElem?_range h]
set_option maxRecDepth 100000 in
set_option maxHeartbeats 1600000 in
theorem bars_c (b nb : Nat) (x : Sw) (w : World) (H : SawM 0 b nb x w) (hn : nb ≤ 40) :
    Calls Try.prog 72 #[.pointer (some ⟨b, 0, none⟩)] w fun e w' => e = .returned (.int .i64 (usB nb x)) ∧ w = w' := by
  obtain ⟨A1, c1, A2, c2, A3, c3, h0, -, -, -, -, ⟨h6, -⟩⟩ := H.ex
  have HI := Lib.hid h6
  have hB := h0.cell
  have hU : Hid (usB nb x = cntL (fun k => decide (0 < iAt x.cuts k)) (List.range nb) nb) := by
    show _ = _
    have := cntL_all (fun k => decide (0 < iAt x.cuts k)) (List.range nb)
    rw [List.length_range] at this
    rw [this]; rfl
  clear H h0 h6
  go_enter Try.func72, Try.ntmps72
  go_wp2
  go_loopw [2, 10] (fun v i (wr : World) => ∃ k : Nat, k ≤ nb ∧ v = .int .i64 (cntL (fun k => decide (0 < iAt x.cuts k)) (List.range nb) k) ∧ i = .int .i64 k ∧ wr = w) (fun _ i _ => nb - (intOf i).toNat)
  case atStart => exact ⟨0, by omega, by rw [cntL_0]; rfl, rfl, rfl⟩
  case round =>
    obtain ⟨k, hk, rfl, rfl, rfl⟩ := hrel
    by_cases hlt : k < nb
    · have hqB : decide ((k : Int) < nb) = true := by simp; omega
      obtain ⟨g, o, rfl, hg, x0⟩ := HI.out.get hlt
      have HS := Lib.hid (cntL_succ (p := fun k => decide (0 < iAt x.cuts k)) (range_get hlt))
      have hle := cntL_le (fun k => decide (0 < iAt x.cuts k)) (List.range nb) k
      rw [List.length_range] at hle
      obtain ⟨m, hm⟩ : ∃ m, cntL (fun k => decide (0 < iAt x.cuts k)) (List.range nb) k = m := ⟨_, rfl⟩
      rw [hm] at HS hle ⊢
      obtain ⟨v, hv⟩ : ∃ v, iAt x.cuts k = v := ⟨_, rfl⟩
      rw [hv] at x0 HS
      have hw : IntKind.i64.wrap ((m : Int) + 1) = ((m + 1 : Nat) : Int) := by rw [IntWalk.i64_in _ (by omega)]; omega
      clear hm hv
      by_cases e1 : 0 < v
      · have e1B : decide (0 < v) = true := by simpa using e1
        have HT : Hid (cntL (fun k => decide (0 < iAt x.cuts k)) (List.range nb) (k + 1) = m + 1) := by show _ = _; rw [HS.out, e1B]; rfl
        go_wp2
        go_roundw
        case rel => exact ⟨k + 1, by omega, (by first | (rw [HT.out]; done) | (rw [HT.out]; go_num)), by go_num, trivial⟩
        case measure => simp [intOf]; omega
      · have e1B : decide (0 < v) = false := by simpa using e1
        have HT : Hid (cntL (fun k => decide (0 < iAt x.cuts k)) (List.range nb) (k + 1) = m) := by show _ = _; rw [HS.out, e1B]; rfl
        go_wp2
        go_roundw
        case rel => exact ⟨k + 1, by omega, (by first | (rw [HT.out]; done) | (rw [HT.out]; go_num)), by go_num, trivial⟩
        case measure => simp [intOf]; omega
    · obtain rfl : nb = k := by omega
      have hqB : decide (((nb : Nat) : Int) < nb) = false := by simp
      rw [← hU.out]
      go_wp2
      go_ret
      exact ⟨rfl, rfl⟩
def plF (nb : Nat) (o : List Int × Int) (x : Sw) : List Int × Int := bif decide ((usB nb x : Int) < o.2) then (x.of, usB nb x) else o
def planP (bs : List Br) (ps : List Pc) (kf wr : Int) : List Int := bif askE bs ps kf wr true == 0 then ((swA bs ps kf wr).foldl (plF bs.length) ([], bs.length + 1)).1 else []
theorem two_stores {w : World} {g h : Nat} {t u : TypeId} {x y v1 v2 : Value} (k1 : Blk w g t #[x]) (k2 : Blk w h u #[y]) (hne : g ≠ h) :
    Blk ((w.setCell ⟨g, 0, none⟩ v1).setCell ⟨h, 0, none⟩ v2) g t #[v1] ∧ Blk ((w.setCell ⟨g, 0, none⟩ v1).setCell ⟨h, 0, none⟩ v2) h u #[v2] := by
  refine ⟨?_, ?_⟩
  · have := (k1.set_ 0 v1).far (p := ⟨h, 0, none⟩) hne v2
    simpa using this
  · have := (k2.far (p := ⟨g, 0, none⟩) (fun e => hne e.symm) v1).set_ 0 v2
    simpa using this
set_option maxRecDepth 100000 in
set_option maxHeartbeats 3200000 in
theorem plan_c (Ab Ap : Option Addr) (nb cb np cp : Nat) (kf wrg : Int) (bs : List Br) (ms : List Pm) (ps : List Pc) (w : World) (h1 : nb ≤ 40) (h2 : np ≤ 40) (h3 : ∀ k, k < np → (pcAt ps k).hs.length ≤ 40) (HB : BrsAt w Ab nb bs) (HP : PcsAt w Ap np ms ps) :
    Calls Try.prog 48 #[.agg #[.slice Ab nb cb, .int .i64 kf, .slice Ap np cp, .int .i64 wrg]] w fun e w' => ∃ A c, e = .returned (.tuple #[.slice A (planP bs ps kf wrg).length c, .int .i64 (askE bs ps kf wrg true)]) ∧ w'.ownsRow w.heap.size 3 1 (.slice A (planP bs ps kf wrg).length c) (planP bs ps kf wrg).length ((planP bs ps kf wrg).flatMap encI) ∧ Below w.heap.size w w' := by
  have HBI := Lib.hid HB
  have HPI := Lib.hid HP
  have hBl := HB.1
  have hPl := HP.pl
  have HOK := Lib.hid (fun h => okSt_of (kf := kf) (wr := wrg) hBl hPl h3 h)
  have htr := fun W (hb : Below w.heap.size w W) => truths_c Ab Ap nb cb np cp kf wrg true bs ms ps W h1 h2 h3 (HB.later hb) (HP.later hb)
  obtain ⟨z, hz⟩ : ∃ z, askE bs ps kf wrg true = z := ⟨_, rfl⟩
  rw [hz] at htr
  replace htr := Lib.hid htr
  have hR : planP bs ps kf wrg = bif z == 0 then ((swA bs ps kf wrg).foldl (plF nb) ([], (nb : Int) + 1)).1 else [] := by unfold planP; rw [hz, hBl]
  rw [hR, hz]
  clear HB HP hPl h3
  by_cases hz0 : z = 0
  · subst hz0
    obtain ⟨hck, -, -⟩ := askE_0 hz
    obtain ⟨ok, hw0, hw8⟩ := HOK.out hck
    have OK := Lib.hid ok
    obtain ⟨M, hM⟩ : ∃ M, (swA bs ps kf wrg).foldl (plF nb) ([], (nb : Int) + 1) = M := ⟨_, rfl⟩
    rw [hM]
    have HMx := Lib.hid hM
    have hnp8 := ok.hp
    have hpl := ok.pl
    have HPL := Lib.hid hpl
    clear hR hz hck ok HOK hBl hM hpl
    have hw : IntKind.i64.wrap ((nb : Int) + 1) = (nb : Int) + 1 := IntWalk.i64_in _ (by omega)
    refine (callsIn_wide (n := 6)).1 (callsIn_of_wp_marks Try.func48 rfl trivial ?_ rfl)
    simp only [Try.ntmps48, List.size_toArray, List.length_cons, List.length_nil, Nat.reduceAdd, Nat.reduceSub, Array.replicate_succ, Array.replicate_zero, List.push_toArray, List.append_toArray, List.nil_append, List.cons_append]
    gi_wp2_with fail
    refine ⟨trivial, callsIn_wide.2 ((htr.out _ (by (repeat first | with_reducible assumption | with_reducible exact Below.refl _ _ | (with_reducible refine Below.alloc ?_ ?side _; case side => (first | omega | (with_reducible exact Below.size (by assumption)) | (simp; done) | (simp; omega))) | (with_reducible refine Below.setCell ?_ ?side _; case side => (first | omega | (with_reducible exact Below.size (by assumption)) | (simp; done) | (simp; omega))) | with_reducible refine Below.drew ?_ | with_reducible refine below_drewN ?_ _ | (with_reducible refine below_step (by assumption) ?side ?_; case side => (first | omega | (with_reducible exact Below.size (by assumption)) | (simp; done) | (simp; omega)))))).mono ?_)⟩
    rintro e w1 ⟨f, rfl, hb1, hf1, -⟩
    obtain ⟨b1, b2, rfl, p1, p2, hne, hM⟩ := hf1 rfl
    have hbw1 : Below w.heap.size w w1 := by (repeat first | with_reducible assumption | with_reducible exact Below.refl _ _ | (with_reducible refine Below.alloc ?_ ?side _; case side => (first | omega | (with_reducible exact Below.size (by assumption)) | (simp; done) | (simp; omega))) | (with_reducible refine Below.setCell ?_ ?side _; case side => (first | omega | (with_reducible exact Below.size (by assumption)) | (simp; done) | (simp; omega))) | with_reducible refine Below.drew ?_ | with_reducible refine below_drewN ?_ _ | (with_reducible refine below_step (by assumption) ?side ?_; case side => (first | omega | (with_reducible exact Below.size (by assumption)) | (simp; done) | (simp; omega))))
    simp only [World.size_alloc] at p1 p2
    have s0 := fun i => (hb1.cell (p := ⟨w.heap.size, i, none⟩) (by simp)).trans ((al1_0 rfl).2.1 i)
    have R0 := Lib.hid (RgB.of hM hbw1)
    have zs1 := hb1.size
    simp only [World.size_alloc] at zs1
    have n0 : w.heap.size < w1.heap.size := by omega
    clear hb1 hf1 hM
    gi_wp2
    obtain ⟨W3, hW3⟩ : ∃ W3, (w1.alloc (.cells #[.slice none 0 0] 36)).alloc (.cells #[.int .i64 ((nb : Int) + 1)] 3) = W3 := ⟨_, rfl⟩
    rw [hW3]
    have B3 : Below w1.heap.size w1 W3 := (al2 hW3).1
    have z3 : W3.heap.size = w1.heap.size + 2 := (al2 hW3).2
    have R3 := Lib.hid (R0.out.later B3)
    have K6 := Lib.hid (by rw [← hW3]; exact (Blk.new w1 _ _).alloc _ : Blk W3 w1.heap.size 36 #[.slice none 0 0])
    have K7 := Lib.hid (by rw [← hW3]; have h := Blk.new (w1.alloc (.cells #[.slice none 0 0] 36)) 3 #[.int .i64 ((nb : Int) + 1)]; simp only [World.size_alloc] at h; exact h : Blk W3 (w1.heap.size + 1) 3 #[.int .i64 ((nb : Int) + 1)])
    have l1 := R0.out.k1.lt
    have l2 := R0.out.k2.lt
    clear hW3 s0
    have en := enters_of Try.func103 (by kernel_rfl) rfl
    refine wpIn_rangeS (gf := 103) (fst := #[]) (lb := #[.pointer (some ⟨b1, 0, none⟩), .pointer (some ⟨b2, 0, none⟩)]) rfl en (sawings1_c b1 b2 Ab Ap nb cb np cp kf wrg wrg bs ms ps OK.out ⟨hw0, hw8⟩) rfl
      (fun b k W => RgB w b1 b2 Ab Ap nb cb np cp kf wrg wrg W ∧ ∃ A c, Blk W w1.heap.size 36 #[.slice A (accL (plF nb) ([], (nb : Int) + 1) (swA bs ps kf wrg) k).1.length c] ∧ Blk W (w1.heap.size + 1) 3 #[.int .i64 (accL (plF nb) ([], (nb : Int) + 1) (swA bs ps kf wrg) k).2] ∧
        W.ownsRow W3.heap.size 3 1 (.slice A (accL (plF nb) ([], (nb : Int) + 1) (swA bs ps kf wrg) k).1.length c) (accL (plF nb) ([], (nb : Int) + 1) (swA bs ps kf wrg) k).1.length ((accL (plF nb) ([], (nb : Int) + 1) (swA bs ps kf wrg) k).1.flatMap encI) ∧ ∀ a, A = some a → a.block ≠ b)
      (fun c W => False) ?hI ?hIx ?hmem ?h0 ?hround ?hdone ?hstop
    case hI =>
      rintro b k W W' hb ⟨a1, A, c, a2, a3, a4, a5⟩ ht
      refine ⟨a1.tameB ht (by omega) (by omega) (by omega) (by omega), A, c, ht.blk a2 (by omega), ht.blk a3 (by omega), ht.own a4 (fun e => ?_), a5⟩
      cases A with
      | none => simp [Value.ownBlock] at e
      | some a => exact a5 a rfl (by simpa [Value.ownBlock] using e)
    case hIx => exact fun c W W' h => h.elim
    case hmem => exact fun b k W hb h => h.1.mem HBI.out HPI.out
    case h0 =>
      intro b W hb h
      refine ⟨R3.out.later h, none, 0, ?_, ?_, ?_, fun a e => by cases e⟩
      · rw [accL_0]; exact K6.out.below h K6.out.lt
      · rw [accL_0]; exact K7.out.below h K7.out.lt
      · rw [accL_0]; exact World.ownsRow_nil _ _ _ _
    case hround =>
      rintro l b k x W hl hb hx ⟨a1, A, c, a2, a3, a4, a5⟩ hat
      have hxl := swA_of_len (List.mem_of_getElem? hx)
      have HS := Lib.hid (accL_succ (f := plF nb) (z := ([], (nb : Int) + 1)) hx)
      obtain ⟨o, ho⟩ : ∃ o, accL (plF nb) ([], (nb : Int) + 1) (swA bs ps kf wrg) k = o := ⟨_, rfl⟩
      rw [ho] at a2 a3 a4 HS
      have hus : usB nb x ≤ nb := by unfold usB; exact Nat.le_trans List.countP_le_length (by simp)
      have hfu : Hid (plF nb o x = bif decide ((usB nb x : Int) < o.2) then (x.of, (usB nb x : Int)) else o) := rfl
      obtain ⟨u, hu⟩ : ∃ u, usB nb x = u := ⟨_, rfl⟩
      rw [hu] at hus hfu
      have A1 := Lib.hid a1
      have A2 := Lib.hid a2
      have A3 := Lib.hid a3
      have A4 := Lib.hid a4
      have A5 := Lib.hid a5
      have AT := Lib.hid hat
      have HXL := Lib.hid hxl
      have HU := Lib.hid hu
      clear a1 a2 a3 a4 a5 hat hx ho hxl hu
      gi_wp2
      refine ⟨KeepsFrom.refl _ _, KeepC.refl _ _, fun W2 ht => ?_⟩
      have B1 := Lib.hid (A1.out.tame ht (by omega))
      have B2 := Lib.hid (A2.out.tame ht)
      have B3' := Lib.hid (A3.out.tame ht)
      have B4 := Lib.hid (ht.own A4.out)
      have BT := Lib.hid (AT.out.tame ht)
      have hbc := bars_c b nb x W2 (BT.out.less (Nat.zero_le _)) h1
      rw [HU.out] at hbc
      replace hbc := Lib.hid hbc
      obtain ⟨A1', c1', A2', c2', A3', c3', hbk, -, -, ⟨hI1, -⟩, -⟩ := BT.out.ex
      have hlb := hbk.lt
      have hcl := fun V (hV : Below W2.heap.size W2 V) => clone_c A1' x.of.length c1' x.of V (by have := HXL.out; have := HPL.out; omega) (hI1.later hV)
      obtain ⟨n, hn⟩ : ∃ n, x.of.length = n := ⟨_, rfl⟩
      have HN := Lib.hid hn
      rw [hn] at hcl hbk
      replace hcl := Lib.hid hcl
      have cb1 := hbk.cell
      have c7 := B3'.out.cell 0
      have c6 := B2.out.cell 0
      have f6 := B2.out.frozen 0
      have f7 := B3'.out.frozen 0
      have z2 := B1.out.bw.size
      have zt := ht.size
      have lt6 := B2.out.lt
      have lt7 := B3'.out.lt
      obtain ⟨m, hm⟩ : ∃ m, o.2 = m := ⟨_, rfl⟩
      rw [hm] at c7 hfu
      have HM2 := Lib.hid hm
      clear ht hbk hI1 hn hm
      by_cases e1 : (u : Int) < m
      · have e1B : decide ((u : Int) < m) = true := by simpa using e1
        have HF : Hid (plF nb o x = (x.of, (u : Int))) := by show _ = _; rw [hfu.out, e1B]; rfl
        gi_wp2_with (refine ⟨trivial, ?_⟩; gi_at_call 72; refine CallsIn.inRound l (callsIn_wide.2 (hbc.out.mono ?_)); rintro e w' ⟨rfl, rfl⟩)
        refine ⟨trivial, CallsIn.inRound l (callsIn_wide.2 ((hcl.out _ (by (repeat first | with_reducible assumption | with_reducible exact Below.refl _ _ | (with_reducible refine Below.alloc ?_ ?side _; case side => (first | omega | (with_reducible exact Below.size (by assumption)) | (simp; done) | (simp; omega))) | (with_reducible refine Below.setCell ?_ ?side _; case side => (first | omega | (with_reducible exact Below.size (by assumption)) | (simp; done) | (simp; omega))) | with_reducible refine Below.drew ?_ | with_reducible refine below_drewN ?_ _ | (with_reducible refine below_step (by assumption) ?side ?_; case side => (first | omega | (with_reducible exact Below.size (by assumption)) | (simp; done) | (simp; omega)))))).mono ?_))⟩
        rintro e w5 ⟨G, d, rfl, ho5, hb5⟩
        have HO5 := Lib.hid ho5
        have k6 := B2.out.below hb5 B2.out.lt
        have k7 := B3'.out.below hb5 B3'.out.lt
        have HK := Lib.hid (And.intro k6 k7)
        have c6' := k6.cell 0
        have c7' := k7.cell 0
        have f6' := k6.frozen 0
        have f7' := k7.frozen 0
        have z5 := hb5.size
        have C1 := Lib.hid (B1.out.later hb5)
        clear ho5 k6 k7 c6 c7 f6 f7 cb1
        gi_wp2
        have ts := two_stores (v1 := .slice G n d) (v2 := .int .i64 (u : Int)) HK.out.1 HK.out.2 (by omega)
        refine ⟨by (repeat first | with_reducible assumption | with_reducible exact KeepsFrom.refl _ _ | with_reducible refine keeps_setCell ?_ _ _ | with_reducible refine keeps_alloc ?_ _ | with_reducible refine keeps_drew ?_ | with_reducible refine keeps_drewN ?_ _ | with_reducible refine keeps_step (by assumption) (Nat.le_refl _) ?_), (KeepC.of_below hb5).trans ((KeepC.set (by show w1.heap.size < _; omega) _).trans (.set (by show w1.heap.size + 1 < _; omega) _)), (C1.out.set (by show w.heap.size ≤ w1.heap.size; omega) (by show b1 ≠ w1.heap.size; omega) (by show b2 ≠ w1.heap.size; omega) _).set (by show w.heap.size ≤ w1.heap.size + 1; omega) (by show b1 ≠ w1.heap.size + 1; omega) (by show b2 ≠ w1.heap.size + 1; omega) _, G, d, ?_, ?_, ?_, ?_⟩
        · rw [HS.out, HF.out]; show Blk _ _ _ #[.slice G x.of.length d]; rw [HN.out]; exact ts.1
        · rw [HS.out, HF.out]; exact ts.2
        · rw [HS.out, HF.out]
          show World.ownsRow _ _ _ _ (.slice G x.of.length d) x.of.length (x.of.flatMap encI)
          rw [HN.out]
          have hne1 : ∀ j, (Value.slice G n d).ownBlock = some j → W2.heap.size ≤ j := fun j hj => (HO5.out.lt j hj).1
          exact own_mono (own_set (own_set HO5.out (fun j hj => by have := hne1 j hj; show j ≠ w1.heap.size; omega)) (fun j hj => by have := hne1 j hj; show j ≠ w1.heap.size + 1; omega)) (by omega)
        · intro a e
          have := own_addr HO5.out a e
          omega
      · have e1B : decide ((u : Int) < m) = false := by simpa using e1
        have HF : Hid (plF nb o x = o) := by show _ = _; rw [hfu.out, e1B]; rfl
        gi_wp2_with (refine ⟨trivial, ?_⟩; gi_at_call 72; refine CallsIn.inRound l (callsIn_wide.2 (hbc.out.mono ?_)); rintro e w' ⟨rfl, rfl⟩)
        exact ⟨by (repeat first | with_reducible assumption | with_reducible exact KeepsFrom.refl _ _ | with_reducible refine keeps_setCell ?_ _ _ | with_reducible refine keeps_alloc ?_ _ | with_reducible refine keeps_drew ?_ | with_reducible refine keeps_drewN ?_ _ | with_reducible refine keeps_step (by assumption) (Nat.le_refl _) ?_), KeepC.refl _ _, B1.out, A, c, by rw [HS.out, HF.out]; exact B2.out, by rw [HS.out, HF.out]; exact B3'.out, by rw [HS.out, HF.out]; exact B4.out, A5.out⟩
    case hdone =>
      rintro D b W hD hb ⟨a1, A, c, a2, a3, a4, a5⟩ hK
      rw [accL_all, HMx.out] at a2 a3 a4
      have c6 := a2.cell 0
      have zz := a1.bw.size
      have hbw := a1.bw
      have HO := Lib.hid a4
      clear a1 a2 a3 a4
      gi_wp2
      refine leave_mark (v := .tuple #[.slice A M.1.length c, .int .i64 0]) hK (fun W' ht => ?_) (fun W' ht => ⟨A, c, rfl, own_mono (ht.own HO.out) (by omega), ht.below (by omega) (by omega) (by (repeat first | with_reducible assumption | with_reducible exact Below.refl _ _ | (with_reducible refine Below.alloc ?_ ?side _; case side => (first | omega | (with_reducible exact Below.size (by assumption)) | (simp; done) | (simp; omega))) | (with_reducible refine Below.setCell ?_ ?side _; case side => (first | omega | (with_reducible exact Below.size (by assumption)) | (simp; done) | (simp; omega))) | with_reducible refine Below.drew ?_ | with_reducible refine below_drewN ?_ _ | (with_reducible refine below_step (by assumption) ?side ?_; case side => (first | omega | (with_reducible exact Below.size (by assumption)) | (simp; done) | (simp; omega)))))⟩)
      simp [results, Try.results48, go_sem]
    case hstop => exact fun D c W hD h => h.elim
  · have hz0B : (z != 0) = true := by simpa using hz0
    have hz0E : (z == 0) = false := by simpa using hz0
    rw [hz0E]
    have hte := Lib.hid (fun W hb => (htr.out W hb).mono fun e w' h => h.err hz0)
    clear hR hz hz0 HOK htr hBl hz0E
    go_enter Try.func48, Try.ntmps48
    go_wp2_with (go_at_call 71; refine (hte.out _ (by (repeat first | with_reducible assumption | with_reducible exact Below.refl _ _ | (with_reducible refine Below.alloc ?_ ?side _; case side => (first | omega | (with_reducible exact Below.size (by assumption)) | (simp; done) | (simp; omega))) | (with_reducible refine Below.setCell ?_ ?side _; case side => (first | omega | (with_reducible exact Below.size (by assumption)) | (simp; done) | (simp; omega))) | with_reducible refine Below.drew ?_ | with_reducible refine below_drewN ?_ _ | (with_reducible refine below_step (by assumption) ?side ?_; case side => (first | omega | (with_reducible exact Below.size (by assumption)) | (simp; done) | (simp; omega)))))).mono ?_; (rintro e w1 ⟨rfl, hb1⟩; obtain ⟨hc1, hf1⟩ := bcell hb1; have zs1 := hb1.size; (try simp at zs1); have n1_0 : w.heap.size < w1.heap.size := (by omega)))
    exact bodyPost_ret (v := .tuple #[.slice none 0 0, .int .i64 z]) (by simp [results, Try.results48, go_sem]) rfl ⟨_, _, rfl, World.ownsRow_nil _ _ _ _, by (repeat first | with_reducible assumption | with_reducible exact Below.refl _ _ | (with_reducible refine Below.alloc ?_ ?side _; case side => (first | omega | (with_reducible exact Below.size (by assumption)) | (simp; done) | (simp; omega))) | (with_reducible refine Below.setCell ?_ ?side _; case side => (first | omega | (with_reducible exact Below.size (by assumption)) | (simp; done) | (simp; omega))) | with_reducible refine Below.drew ?_ | with_reducible refine below_drewN ?_ _ | (with_reducible refine below_step (by assumption) ?side ?_; case side => (first | omega | (with_reducible exact Below.size (by assumption)) | (simp; done) | (simp; omega))))⟩

end Go.Proofs.Ytdhlnlmhdacblaa
