/- Far, ready, isKnown of the statements, IsPiece, Agrees, Subset of the specification (layer 1); A piece that is cut in two, in plain terms (layer 1); Rest of bars (layer 1). -/
import Derived.Test.YtdhlnlmhdacblaaTs08
import Derived.Test.YtdhlnlmhdacblaaTs03
import Derived.Test.YtdhlnlmhdacblaaTs12
import Derived.Test.YtdhlnlmhdacblaaTs13
import Derived.Test.YtdhlnlmhdacblaaTs15
import Derived.BigRegionIn
import Derived.Shelf.RegionOpen
namespace Go.Proofs.Ytdhlnlmhdacblaa
open Go.RowKit
open Go.Sort (grow)
set_option linter.unusedVariables false
set_option linter.unusedSimpArgs false

def bigH (ps : List Pc) (np : Nat) : Bool := anyN np fun k => decide (40 < (pcAt ps k).hs.length)
def farB (bs : List Br) (ps : List Pc) (kf wr : Int) (nb np : Nat) : Bool :=
  decide ((40 : Int) < nb) || (decide ((40 : Int) < np) || (bigH ps np || (ckS bs ps kf wr && (decide ((4 : Int) < nb) || decide ((5 : Int) < np)))))
def rdyS (bs : List Br) (ps : List Pc) (kf wr : Int) (nb np : Nat) : Bool := !farB bs ps kf wr nb np && ckS bs ps kf wr
theorem farB_no {bs : List Br} {ps : List Pc} {kf wr : Int} {nb np : Nat} (h : farB bs ps kf wr nb np = false) :
    nb ≤ 40 ∧ np ≤ 40 ∧ (∀ k, k < np → (pcAt ps k).hs.length ≤ 40) ∧ (ckS bs ps kf wr = true → nb ≤ 4 ∧ np ≤ 5) := by
  simp only [farB, Bool.or_eq_false_iff, decide_eq_false_iff_not, Bool.and_eq_false_iff] at h
  obtain ⟨h1, h2, h3, h4⟩ := h
  refine ⟨by omega, by omega, fun k hk => ?_, fun hc => ?_⟩
  · rcases Nat.lt_or_ge 40 (pcAt ps k).hs.length with h | h
    · rw [show bigH ps np = true from anyN_yes hk (by simpa using h)] at h3
      cases h3
    · exact h
  · rw [hc] at h4
    rcases h4 with h4 | h4
    · cases h4
    · omega
theorem rdyS_ok {bs : List Br} {ps : List Pc} {kf wr : Int} {nb np : Nat} (h : rdyS bs ps kf wr nb np = true) :
    nb ≤ 4 ∧ np ≤ 5 ∧ (∀ k, k < np → (pcAt ps k).hs.length ≤ 40) ∧ ckS bs ps kf wr = true := by
  simp only [rdyS, Bool.and_eq_true, Bool.not_eq_true'] at h
  obtain ⟨-, -, h3, h4⟩ := farB_no h.1
  exact ⟨(h4 h.2).1, (h4 h.2).2, h3, h.2⟩
set_option maxRecDepth 100000 in
set_option maxHeartbeats 1600000 in
theorem Far_c (Ab Ap : Option Addr) (nb cb np cp : Nat) (kf wrg : Int) (bs : List Br) (ms : List Pm) (ps : List Pc) (w : World) (HB : BrsAt w Ab nb bs) (HP : PcsAt w Ap np ms ps) :
    Calls Try.prog 6 #[.agg #[.slice Ab nb cb, .int .i64 kf, .slice Ap np cp, .int .i64 wrg]] w fun e w' => e = .returned (.bool (farB bs ps kf wrg nb np)) ∧ Below w.heap.size w w' := by
  by_cases h40 : (40 : Int) < nb
  · have hB : decide ((40 : Int) < nb) = true := by simpa using h40
    have e1 : farB bs ps kf wrg nb np = true := by simp only [farB, hB]; rfl
    rw [e1]
    clear e1 HB HP
    go_enter Try.func6, Try.ntmps6
    go_wp2_with fail
    go_ret
    exact ⟨rfl, by (repeat first | with_reducible assumption | with_reducible exact Below.refl _ _ | (with_reducible refine Below.alloc ?_ ?side _; case side => (first | omega | (with_reducible exact Below.size (by assumption)) | (simp; done) | (simp; omega))) | (with_reducible refine Below.setCell ?_ ?side _; case side => (first | omega | (with_reducible exact Below.size (by assumption)) | (simp; done) | (simp; omega))) | with_reducible refine Below.drew ?_ | with_reducible refine below_drewN ?_ _ | (with_reducible refine below_step (by assumption) ?side ?_; case side => (first | omega | (with_reducible exact Below.size (by assumption)) | (simp; done) | (simp; omega))))⟩
  have hB : decide ((40 : Int) < nb) = false := by simpa using h40
  by_cases h41 : (40 : Int) < np
  · have hB1 : decide ((40 : Int) < np) = true := by simpa using h41
    have e1 : farB bs ps kf wrg nb np = true := by simp only [farB, hB, hB1]; rfl
    rw [e1]
    clear e1 HB HP
    go_enter Try.func6, Try.ntmps6
    go_wp2_with fail
    go_ret
    exact ⟨rfl, by (repeat first | with_reducible assumption | with_reducible exact Below.refl _ _ | (with_reducible refine Below.alloc ?_ ?side _; case side => (first | omega | (with_reducible exact Below.size (by assumption)) | (simp; done) | (simp; omega))) | (with_reducible refine Below.setCell ?_ ?side _; case side => (first | omega | (with_reducible exact Below.size (by assumption)) | (simp; done) | (simp; omega))) | with_reducible refine Below.drew ?_ | with_reducible refine below_drewN ?_ _ | (with_reducible refine below_step (by assumption) ?side ?_; case side => (first | omega | (with_reducible exact Below.size (by assumption)) | (simp; done) | (simp; omega))))⟩
  have hB1 : decide ((40 : Int) < np) = false := by simpa using h41
  have hn1 : nb ≤ 40 := by omega
  have hn2 : np ≤ 40 := by omega
  have e1 : farB bs ps kf wrg nb np = (bigH ps np || (ckS bs ps kf wrg && (decide ((4 : Int) < nb) || decide ((5 : Int) < np)))) := by simp only [farB, hB, hB1]; rfl
  rw [e1]
  clear e1
  obtain ⟨R, hR⟩ : ∃ R, (bigH ps np || (ckS bs ps kf wrg && (decide ((4 : Int) < nb) || decide ((5 : Int) < np)))) = R := ⟨_, rfl⟩
  have HR := Lib.hid hR
  rw [hR]
  clear hR
  have HPI := Lib.hid HP
  have hck : Hid (∀ W, Below w.heap.size w W → (∀ k, k < np → (pcAt ps k).hs.length ≤ 40) → Calls Try.prog 18 #[.agg #[.slice Ab nb cb, .int .i64 kf, .slice Ap np cp, .int .i64 wrg]] W fun e w' => e = .returned (.int .i64 (erS (ckS bs ps kf wrg))) ∧ Below W.heap.size W w') :=
    Lib.hid fun W hb h3 => refCheck_c Ab Ap nb cb np cp kf wrg bs ms ps W hn1 hn2 h3 (HB.later hb) (HP.later hb)
  clear HB HP h40 h41
  go_enter Try.func6, Try.ntmps6
  go_wp2_with fail
  obtain ⟨W, hW⟩ : ∃ W, w.alloc (.cells #[.slice Ab nb cb, .int .i64 kf, .slice Ap np cp, .int .i64 wrg] 25) = W := ⟨_, rfl⟩
  have B0 : Below w.heap.size w W := by rw [← hW]; exact (Below.refl _ _).alloc (Nat.le_refl _) _
  have c0 := (al1_0 hW).2.1
  have f0 := (al1_0 hW).2.2
  have l0 := (al1_0 hW).1
  rw [hW]
  clear hW
  have zW := B0.size
  go_loopw [3] (fun i (wr : World) => ∃ k : Nat, k ≤ np ∧ i = .int .i64 k ∧ Hid (∀ j, j < k → (pcAt ps j).hs.length ≤ 40) ∧ wr = W) (fun i _ => np - (intOf i).toNat)
  case atStart => exact ⟨0, by omega, rfl, fun j hj => absurd hj (by omega), rfl⟩
  case round =>
    obtain ⟨k, hk, rfl, H1, rfl⟩ := hrel
    by_cases hlt : k < np
    · have hqB : decide ((k : Int) < np) = true := by simp; omega
      obtain ⟨bp, op, rfl, hbp, x0, x1, hI⟩ := (HPI.out.later B0).get hlt
      have hln := HPI.out.len hlt
      obtain ⟨hd, hhd⟩ : ∃ h, (pmAt ms k).h = h := ⟨_, rfl⟩
      rw [hhd] at x1 hln
      clear hI hhd x0
      by_cases g : (40 : Int) < hd.n
      · have hqG : decide ((40 : Int) < hd.n) = true := by simpa using g
        have e1 : bigH ps np = true := anyN_yes hlt (by simp; omega)
        have hE : Hid (R = true) := Lib.hid (by rw [← HR.out, e1]; rfl)
        clear e1 hln
        go_wp2_with fail
        go_ret
        exact ⟨by rw [hE.out]; rfl, B0⟩
      · have hqG : decide ((40 : Int) < hd.n) = false := by simpa using g
        have hK : Hid ((pcAt ps k).hs.length ≤ 40) := Lib.hid (by omega)
        clear hln
        go_wp2_with fail
        go_roundw
        case rel => exact ⟨k + 1, by omega, by go_num, fun j hj => by
          rcases Nat.lt_succ_iff_lt_or_eq.1 hj with h | rfl
          · exact H1.out j h
          · exact hK.out, trivial⟩
        case measure => simp [intOf]; omega
    · obtain rfl : np = k := by omega
      have hqB : decide (((np : Nat) : Int) < np) = false := by simp
      have e1 : bigH ps np = false := anyN_no fun j hj => by have := H1.out j hj; simp; omega
      have hE : Hid (R = (ckS bs ps kf wrg && (decide ((4 : Int) < nb) || decide ((5 : Int) < np)))) := Lib.hid (by rw [← HR.out, e1, Bool.false_or])
      have hcc : Hid (Calls Try.prog 18 #[.agg #[.slice Ab nb cb, .int .i64 kf, .slice Ap np cp, .int .i64 wrg]] wr fun e w' => e = .returned (.int .i64 (erS (ckS bs ps kf wrg))) ∧ Below wr.heap.size wr w') := Lib.hid (hck.out wr B0 H1.out)
      clear e1 H1 hck
      cases ek : ckS bs ps kf wrg
      · rw [ek, show erS false = 10 from rfl] at hcc
        have hE1 : Hid (R = false) := Lib.hid (by rw [hE.out, ek]; rfl)
        clear ek
        go_wp2_with (go_at_call 18; with_reducible refine hcc.out.mono ?_; rintro e w1 ⟨rfl, hb1⟩)
        go_ret
        exact ⟨by rw [hE1.out]; rfl, B0.trans (hb1.mono zW)⟩
      · rw [ek, show erS true = 0 from rfl] at hcc
        have hE1 : Hid (R = (decide ((4 : Int) < nb) || decide ((5 : Int) < np))) := Lib.hid (by rw [hE.out, ek]; rfl)
        clear ek
        cases g4 : decide ((4 : Int) < nb) <;> cases g5 : decide ((5 : Int) < np)
        all_goals
          go_wp2_with (go_at_call 18; with_reducible refine hcc.out.mono ?_; rintro e w1 ⟨rfl, hb1⟩; have c1 := (fun i => (hb1.cell (p := ⟨w.heap.size, i, none⟩) l0).trans (c0 i)))
          go_ret
          exact ⟨by rw [hE1.out, g4, g5]; rfl, B0.trans (hb1.mono zW)⟩
def agrB (k : Int) (is : Bool) : Bool := bif k == 1 then is else (bif k == 2 then !is else k == 3)
def subI (xs ys : List Int) : Bool := allN xs.length (fun k => hasI ys (iAt xs k)) && decide (xs.length ≤ ys.length)

end Go.Proofs.Ytdhlnlmhdacblaa

namespace Go.Proofs.Ytdhlnlmhdacblaa
open Go.RowKit
open Go.Sort (grow)
set_option linter.unusedVariables false
set_option linter.unusedSimpArgs false

theorem anyN_ex {n : Nat} {p : Nat → Bool} : anyN n p = true ↔ ∃ k, k < n ∧ p k = true := by
  constructor
  · intro h
    apply Classical.byContradiction
    intro hn
    rw [anyN_no fun k hk => by
      cases e : p k
      · rfl
      · exact absurd ⟨k, hk, e⟩ hn] at h
    cases h
  · rintro ⟨k, hk, h⟩; exact anyN_yes hk h
theorem iAt_get {l : List Int} {k : Nat} (h : k < l.length) : iAt l k = l[k] := by
  unfold iAt; rw [List.getD_eq_getElem?_getD, List.getElem?_eq_getElem h]; rfl
theorem hasI_mem {l : List Int} {v : Int} : hasI l v = true ↔ v ∈ l := by
  unfold hasI
  rw [anyN_ex]
  constructor
  · rintro ⟨k, hk, h⟩
    rw [iAt_get hk] at h
    rw [← (by simpa using h : l[k] = v)]
    exact List.getElem_mem hk
  · intro h
    obtain ⟨k, hk, rfl⟩ := List.getElem_of_mem h
    exact ⟨k, hk, by rw [iAt_get hk]; simp⟩
theorem nodup_le {α : Type} [BEq α] [LawfulBEq α] : ∀ (A B : List α), A.Nodup → (∀ x ∈ A, x ∈ B) → A.length ≤ B.length
  | [], B, _, _ => by simp
  | a :: A, B, hn, hs => by
    have ha := hs a (by simp)
    obtain ⟨h1, h2⟩ := List.nodup_cons.1 hn
    have h3 := nodup_le A (B.erase a) h2 (fun x hx => by
      refine (List.mem_erase_of_ne ?_).2 (hs x (by simp [hx]))
      rintro rfl
      exact h1 hx)
    rw [List.length_erase_of_mem ha] at h3
    have := List.length_pos_of_mem ha
    simp only [List.length_cons]
    omega
def gN (l : List Nat) (k : Nat) : Nat := l.getD k 0
theorem trL_nodup (bs : List Br) (ps : List Pc) (kf most : Int) : (trL bs ps kf most).Nodup := (allL_nodup _ _).filter _
theorem toI_at {l : List Nat} {k : Nat} : iAt (toI l) k = (gN l k : Int) := by
  unfold iAt toI gN
  rw [List.getD_eq_getElem?_getD, List.getD_eq_getElem?_getD, List.getElem?_map]
  cases l[k]? <;> rfl
theorem of_ok {bs : List Br} {ps : List Pc} {kf wr : Int} (h : ckS bs ps kf wr = true) (hne : trL bs ps kf wr ≠ []) {pn : Nat} (hp : pn < ps.length) :
    ofP bs ps kf wr (pn : Int) = uptoL bs.length fun j => (trL bs ps kf wr).any fun l => gN l pn == j := by
  obtain ⟨-, -, h4, h5, h6, h7⟩ := ckS_vals h
  have hw : wi (pn : Int) 0 ((ps.length : Int) - 1) = true := wi_true.2 (by omega)
  unfold ofP
  rw [hw, askE_ok h, if_neg hne, swA_ok h h5.1]
  simp only [beq_self_eq_true, cond_true]
  unfold ofL uptoL
  congr 1
  refine List.filter_congr fun j _ => ?_
  rw [Bool.eq_iff_iff, decide_eq_true_eq, List.countP_pos_iff, List.any_eq_true]
  constructor
  · rintro ⟨x, hx, e⟩
    obtain ⟨l, hl, rfl⟩ := List.mem_map.1 hx
    refine ⟨l, hl, ?_⟩
    simp only [swOf, Int.toNat_natCast, toI_at, beq_iff_eq] at e ⊢
    omega
  · rintro ⟨l, hl, e⟩
    refine ⟨_, List.mem_map.2 ⟨l, hl, rfl⟩, ?_⟩
    simp only [swOf, Int.toNat_natCast, toI_at, beq_iff_eq] at e ⊢
    omega
theorem sub_upto {n : Nat} {P Q : Nat → Bool} (h : ∀ j, j < n → P j = true → Q j = true) : subI (uptoL n P) (uptoL n Q) = true := by
  unfold subI
  rw [Bool.and_eq_true, allN_iff]
  refine ⟨fun k hk => ?_, ?_⟩
  · rw [hasI_mem, uptoL_mem]
    obtain ⟨j, hj, hp, e⟩ := uptoL_mem.1 (iAt_mem hk)
    exact ⟨j, hj, h j hj hp, e⟩
  · rw [uptoL_len, uptoL_len, decide_eq_true_eq]
    exact List.countP_mono_left fun j hj => h j (List.mem_range.1 hj)
theorem smB_set : ∀ (ps : List Pc) (p : Nat) (x : Pc) (l : List Nat) (b : Nat), p < ps.length → p < l.length →
    smB (ps.set p x) l b = smB ps l b + (bif gN l p == b then x.long - (pcAt ps p).long else 0)
  | [], p, x, l, b, h, _ => by simp at h
  | q :: ps, p, x, [], b, _, h => by simp at h
  | q :: ps, 0, x, c :: l, b, _, _ => by
    simp only [smB, List.set_cons_zero, List.zip_cons_cons, List.map_cons, List.sum_cons]
    show _ = _ + (bif c == b then x.long - q.long else 0)
    cases c == b <;> simp <;> omega
  | q :: ps, p + 1, x, c :: l, b, h, h' => by
    have ih := smB_set ps p x l b (by simpa using h) (by simpa using h')
    simp only [smB, List.set_cons_succ, List.zip_cons_cons, List.map_cons, List.sum_cons] at ih ⊢
    rw [ih]
    show _ + (_ + (bif gN l p == b then x.long - (pcAt ps p).long else 0)) = _ + _ + (bif gN l p == b then x.long - (pcAt ps p).long else 0)
    omega
theorem wgB_set {bs : List Br} : ∀ (ps : List Pc) (p : Nat) (x : Pc) (l : List Nat), p < ps.length → x.hs = (pcAt ps p).hs → wgB bs (ps.set p x) l = wgB bs ps l
  | [], p, x, l, h, _ => by simp at h
  | q :: ps, p, x, [], _, _ => by simp [wgB]
  | q :: ps, 0, x, c :: l, _, e => by
    have e : x.hs = q.hs := e
    simp only [wgB, List.set_cons_zero, List.zip_cons_cons, List.countP_cons, e]
  | q :: ps, p + 1, x, c :: l, h, e => by
    have ih := wgB_set (bs := bs) ps p x l (by simpa using h) e
    simp only [wgB, List.set_cons_succ, List.zip_cons_cons, List.countP_cons] at ih ⊢
    rw [ih]
def twP (ps : List Pc) (p : Nat) (y r : Int) : List Pc := ps.set p ⟨y, (pcAt ps p).hs⟩ ++ [⟨r, (pcAt ps p).hs⟩]
theorem twP_len (ps : List Pc) (p : Nat) (y r : Int) : (twP ps p y r).length = ps.length + 1 := by simp [twP]
section
variable {bs : List Br} {ps : List Pc} {kf wr y r : Int} {p : Nat} {l : List Nat}
theorem gN_lt (h : p < l.length) : gN l p ∈ l := by
  unfold gN; rw [List.getD_eq_getElem?_getD, List.getElem?_eq_getElem h]; exact List.getElem_mem h
theorem two_ok (hp : p < ps.length) (hl : l.length = ps.length) (hr : r = (pcAt ps p).long - kf - y) (h : okB bs ps kf wr l = true) :
    okB bs (twP ps p y r) kf (wr + 1) (l ++ [gN l p]) = true := by
  have hsl : (ps.set p ⟨y, (pcAt ps p).hs⟩).length = ps.length := by simp
  have hl1 : l.length < (twP ps p y r).length := by rw [twP_len]; omega
  have hat : pcAt (twP ps p y r) l.length = ⟨r, (pcAt ps p).hs⟩ := by
    unfold pcAt twP; rw [List.getD_eq_getElem?_getD, List.getElem?_append_right (by rw [hsl]; omega), hsl, hl, Nat.sub_self]; rfl
  rw [okB_iff] at h ⊢
  refine ⟨fun b hb => ?_, ?_⟩
  · have h1 := h.1 b hb
    have e1 : smB (twP ps p y r) (l ++ [gN l p]) b = smB ps l b + (bif gN l p == b then y - (pcAt ps p).long else 0) + (bif gN l p == b then r else 0) := by
      rw [smB_snoc hl1, hat]
      have : smB (twP ps p y r) l b = smB (ps.set p ⟨y, (pcAt ps p).hs⟩) l b := by
        unfold smB twP
        rw [zip_more _ l (by rw [hsl]; omega)]
      rw [this, smB_set ps p _ l b hp (by omega)]
    unfold rsB at h1 ⊢
    rw [e1, count_snoc]
    by_cases e : gN l p = b
    · have e2 : (gN l p == b) = true := by simpa using e
      rw [e2]
      have hc : 0 < l.count b := List.count_pos_iff.2 (by rw [← e]; exact gN_lt (by omega))
      obtain ⟨m, hm⟩ := Nat.exists_eq_succ_of_ne_zero (Nat.ne_of_gt hc)
      rw [hm] at h1 ⊢
      simp only [Nat.succ_eq_add_one, Nat.add_sub_cancel, cond_true] at h1 ⊢
      rw [show ((m + 1 : Nat) : Int) = (m : Int) + 1 from rfl, Int.mul_add]
      omega
    · have e2 : (gN l p == b) = false := by simpa using e
      rw [e2]
      simpa using h1
  · have h2 := h.2
    rw [wgB_snoc hl1]
    have : wgB bs (twP ps p y r) l = wgB bs ps l := by
      have h3 := wgB_set (bs := bs) ps p ⟨y, (pcAt ps p).hs⟩ l hp rfl
      rw [← h3]
      unfold wgB twP
      rw [zip_more _ l (by rw [hsl]; omega)]
    rw [this]
    cases wrB bs (twP ps p y r) l.length (gN l p) <;> simp <;> omega
theorem two_mem (hp : p < ps.length) (hr : r = (pcAt ps p).long - kf - y) (h : l ∈ trL bs ps kf wr) : l ++ [gN l p] ∈ trL bs (twP ps p y r) kf (wr + 1) := by
  obtain ⟨⟨h1, h2⟩, h3⟩ := trL_mem.1 h
  refine trL_mem.2 ⟨⟨by rw [twP_len]; simp [h1], fun b hb => ?_⟩, two_ok hp h1 hr h3⟩
  rcases List.mem_append.1 hb with hb | hb
  · exact h2 b hb
  · rw [List.mem_singleton.1 hb]; exact h2 _ (gN_lt (by omega))
/-- what BarsTwo asks -/
theorem two_law (hck : ckS bs ps kf wr = true) (hp : p < ps.length) (hr : r = (pcAt ps p).long - kf - y) (ho : ckS bs (twP ps p y r) kf (wr + 1) = true) :
    (askE bs (twP ps p y r) kf (wr + 1) true = 0 ∨ askE bs (twP ps p y r) kf (wr + 1) true = 3) ∧ (askE bs ps kf wr true = 3 ∨
    (askE bs ps kf wr true = 0 ∧ askE bs (twP ps p y r) kf (wr + 1) true = 0 ∧ manyR bs ps kf wr ≤ manyR bs (twP ps p y r) kf (wr + 1) ∧
      subI (ofP bs ps kf wr (p : Int)) (ofP bs (twP ps p y r) kf (wr + 1) (p : Int)) = true ∧ subI (ofP bs ps kf wr (p : Int)) (ofP bs (twP ps p y r) kf (wr + 1) (ps.length : Int)) = true)) := by
  refine ⟨by rw [askE_ok ho]; split <;> simp, ?_⟩
  by_cases e : trL bs ps kf wr = []
  · exact .inl (by rw [askE_ok hck, if_pos e])
  right
  obtain ⟨l0, hl0⟩ := List.exists_mem_of_ne_nil _ e
  have e' : trL bs (twP ps p y r) kf (wr + 1) ≠ [] := fun h => by
    have := two_mem (y := y) hp hr hl0
    rw [h] at this
    cases this
  refine ⟨by rw [askE_ok hck, if_neg e], by rw [askE_ok ho, if_neg e'], ?_, ?_, ?_⟩
  · rw [manyR_ok hck, manyR_ok ho]
    have := nodup_le ((trL bs ps kf wr).map fun l => l ++ [gN l p]) (trL bs (twP ps p y r) kf (wr + 1)) (by
      refine List.Pairwise.map _ (fun a b (hab : a ≠ b) h => hab ?_) (trL_nodup bs ps kf wr)
      exact (List.append_inj' h rfl).1) (fun x hx => by
      obtain ⟨l, hl, rfl⟩ := List.mem_map.1 hx
      exact two_mem hp hr hl)
    rw [List.length_map] at this
    omega
  · rw [of_ok hck e hp, of_ok ho e' (by rw [twP_len]; omega)]
    refine sub_upto fun j _ h => ?_
    obtain ⟨l, hl, hj⟩ := List.any_eq_true.1 h
    refine List.any_eq_true.2 ⟨_, two_mem hp hr hl, ?_⟩
    have hlen := (trL_mem.1 hl).1.1
    have : gN (l ++ [gN l p]) p = gN l p := by
      show (l ++ [gN l p]).getD p 0 = l.getD p 0
      rw [List.getD_eq_getElem?_getD, List.getD_eq_getElem?_getD, List.getElem?_append_left (by omega)]
    rw [this]; exact hj
  · rw [of_ok hck e hp, of_ok ho e' (by rw [twP_len]; omega)]
    refine sub_upto fun j _ h => ?_
    obtain ⟨l, hl, hj⟩ := List.any_eq_true.1 h
    refine List.any_eq_true.2 ⟨_, two_mem hp hr hl, ?_⟩
    have hlen := (trL_mem.1 hl).1.1
    have : gN (l ++ [gN l p]) ps.length = gN l p := by
      show (l ++ [gN l p]).getD ps.length 0 = _
      rw [List.getD_eq_getElem?_getD, ← hlen, List.getElem?_append_right (Nat.le_refl _), Nat.sub_self]; rfl
    rw [this]; exact hj
end

end Go.Proofs.Ytdhlnlmhdacblaa

namespace Go.Proofs.Ytdhlnlmhdacblaa
open Go.RowKit
open Go.Sort (grow)
set_option linter.unusedVariables false
set_option linter.unusedSimpArgs false

attribute [local go_sem] Oper.semAt_some
def mn2 (a b : Int) : Int := if b < a then b else a
def mx2 (a b : Int) : Int := if a < b then b else a
theorem run_min2 {P : Program} {w : World} (ts : Array TypeId) (t : TypeId) (x y : Int) : (Builtin.min_ ts t #[.int .i64 x, .int .i64 y]).run P w = .ok (.int .i64 (mn2 x y)) w := by
  simp [Builtin.min_, Builtin.min2, mn2]
theorem run_max2 {P : Program} {w : World} (ts : Array TypeId) (t : TypeId) (x y : Int) : (Builtin.max_ ts t #[.int .i64 x, .int .i64 y]).run P w = .ok (.int .i64 (mx2 x y)) w := by
  simp [Builtin.max_, Builtin.max2, mx2]
attribute [local go_sem] run_min2 run_max2
def rsF (bar : Nat) (o : Sp) (x : Sw) : Sp := ⟨mn2 o.lo (iAt x.rests bar), mx2 o.hi (iAt x.rests bar)⟩
def restP (bs : List Br) (ps : List Pc) (kf wr bar : Int) : Sp × Int :=
  bif askE bs ps kf wr (wi bar 0 ((bs.length : Int) - 1)) == 0 then ((swA bs ps kf wr).foldl (rsF bar.toNat) ⟨999, 0⟩, 0) else (⟨0, 0⟩, askE bs ps kf wr (wi bar 0 ((bs.length : Int) - 1)))

end Go.Proofs.Ytdhlnlmhdacblaa
