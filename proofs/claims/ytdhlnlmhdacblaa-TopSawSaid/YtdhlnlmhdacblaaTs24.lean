/- What cut of scrap (layer 11) works on: the saw's block, the rests and the counts of cuts; Alike and Room of the specification (layer 1); Room and Rest of the specification (layer 1); Both Sawn answer alike, in plain terms; The chapter's example reckoned (layer 1). -/
import Derived.Test.YtdhlnlmhdacblaaTs20
import Derived.Test.YtdhlnlmhdacblaaTs07
import Derived.Test.YtdhlnlmhdacblaaTs21
import Derived.Test.YtdhlnlmhdacblaaTs09
import Derived.Handy
import Derived.Test.YtdhlnlmhdacblaaTs23
import Derived.Test.YtdhlnlmhdacblaaTs17
import Derived.Test.YtdhlnlmhdacblaaTs12
import Derived.Test.YtdhlnlmhdacblaaTs14
import Derived.Test.YtdhlnlmhdacblaaTs15
import Derived.Test.YtdhlnlmhdacblaaTs22
import Derived.Test.YtdhlnlmhdacblaaTs11
import Derived.Test.YtdhlnlmhdacblaaTs04
namespace Go.Proofs.Ytdhlnlmhdacblaa
open Go.RowKit
open Go.Sort (grow)
set_option linter.unusedVariables false
set_option linter.unusedSimpArgs false

/-- what may turn: three blocks; all others are as they were -/
structure But3 (go gr gc : Nat) (W W' : World) : Prop where
  os : W'.os = W.os
  tape : W'.tape = W.tape
  output : W'.output = W.output
  size : W.heap.size ≤ W'.heap.size
  same : ∀ k, k < W.heap.size → k ≠ go → k ≠ gr → k ≠ gc → W'.heap[k]? = W.heap[k]?
section
variable {go gr gc B : Nat} {W W' W'' : World}
theorem But3.refl (go gr gc : Nat) (W : World) : But3 go gr gc W W := ⟨rfl, rfl, rfl, Nat.le_refl _, fun _ _ _ _ _ => rfl⟩
theorem But3.of_below (h : Below W.heap.size W W') : But3 go gr gc W W' := ⟨h.os, h.tape, h.output, h.size, fun k hk _ _ _ => h.block k hk⟩
theorem But3.trans (h : But3 go gr gc W W') (k : But3 go gr gc W' W'') : But3 go gr gc W W'' :=
  ⟨k.os.trans h.os, k.tape.trans h.tape, k.output.trans h.output, Nat.le_trans h.size k.size, fun j h1 h2 h3 h4 => (k.same j (Nat.lt_of_lt_of_le h1 h.size) h2 h3 h4).trans (h.same j h1 h2 h3 h4)⟩
theorem But3.set {p : Addr} (hp : p.block = go ∨ p.block = gr ∨ p.block = gc) (u : Value) : But3 go gr gc W (W.setCell p u) :=
  ⟨rfl, rfl, rfl, by simp, fun k _ h2 h3 h4 => Below.heap_setCell W p u k (by rcases hp with h | h | h <;> omega)⟩
theorem But3.drew (h : But3 go gr gc W W') : But3 go gr gc W W'.drew := ⟨h.os, h.tape, h.output, h.size, h.same⟩
theorem But3.cell {p : Addr} (h : But3 go gr gc W W') (h0 : p.block < W.heap.size) (h1 : p.block ≠ go ∧ p.block ≠ gr ∧ p.block ≠ gc) : W'.cell? p = W.cell? p := World.cell?_of_block (h.same _ h0 h1.1 h1.2.1 h1.2.2)
theorem But3.below (h : But3 go gr gc W W') {n : Nat} {w : World} (h1 : n ≤ go ∧ n ≤ gr ∧ n ≤ gc) (hb : Below n w W) (hs : n ≤ W.heap.size) : Below n w W' :=
  ⟨h.os.trans hb.os, h.tape.trans hb.tape, h.output.trans hb.output, Nat.le_trans hb.size h.size, fun k hk => (h.same k (by omega) (by omega) (by omega) (by omega)).trans (hb.block k hk)⟩
end
/-- the saw in memory -/
structure CutM (B go gr gc cr cc nb : Nat) (Ab : Option Addr) (cb : Nat) (kf : Int) (Ap : Option Addr) (np cp : Nat) (wrg : Int) (rests cuts : List Int) (best : Nat) (W : World) : Prop where
  blk : Blk W go 68 #[.slice Ab nb cb, .int .i64 kf, .slice Ap np cp, .int .i64 wrg, .slice (some ⟨gr, 0, none⟩) nb cr, .slice (some ⟨gc, 0, none⟩) nb cc, .int .i64 best]
  o2 : W.ownsRow B 3 1 (.slice (some ⟨gr, 0, none⟩) nb cr) nb (rests.flatMap encI)
  o3 : W.ownsRow B 3 1 (.slice (some ⟨gc, 0, none⟩) nb cc) nb (cuts.flatMap encI)
  rl : rests.length = nb
  cl : cuts.length = nb
  ne : gr ≠ go ∧ gc ≠ go ∧ gr ≠ gc
  ge : B ≤ go
section
variable {B go gr gc cr cc nb cb np cp best : Nat} {Ab Ap : Option Addr} {kf wrg : Int} {rests cuts : List Int} {W W' : World}
theorem CutM.later (h : CutM B go gr gc cr cc nb Ab cb kf Ap np cp wrg rests cuts best W) (hb : Below W.heap.size W W') : CutM B go gr gc cr cc nb Ab cb kf Ap np cp wrg rests cuts best W' :=
  ⟨h.blk.below hb h.blk.lt, own_below h.o2 hb, own_below h.o3 hb, h.rl, h.cl, h.ne, h.ge⟩
theorem CutM.drew (h : CutM B go gr gc cr cc nb Ab cb kf Ap np cp wrg rests cuts best W) : CutM B go gr gc cr cc nb Ab cb kf Ap np cp wrg rests cuts best W.drew := h.later (Below.drew (Below.refl _ _))
theorem CutM.ges (h : CutM B go gr gc cr cc nb Ab cb kf Ap np cp wrg rests cuts best W) : B ≤ go ∧ B ≤ gr ∧ B ≤ gc := ⟨h.ge, (own_addr h.o2 _ rfl).1, (own_addr h.o3 _ rfl).1⟩
theorem CutM.lts (h : CutM B go gr gc cr cc nb Ab cb kf Ap np cp wrg rests cuts best W) : go < W.heap.size ∧ gr < W.heap.size ∧ gc < W.heap.size := ⟨h.blk.lt, (own_addr h.o2 _ rfl).2, (own_addr h.o3 _ rfl).2⟩
theorem CutM.setb (h : CutM B go gr gc cr cc nb Ab cb kf Ap np cp wrg rests cuts best W) (v : Nat) : CutM B go gr gc cr cc nb Ab cb kf Ap np cp wrg rests cuts v (W.setCell ⟨go, 6, none⟩ (.int .i64 v)) := by
  obtain ⟨n1, n2, n3⟩ := h.ne
  refine ⟨?_, own_set h.o2 (fun k hk => by cases hk; exact n1), own_set h.o3 (fun k hk => by cases hk; exact n2), h.rl, h.cl, h.ne, h.ge⟩
  have := h.blk.set_ 6 (.int .i64 v)
  simpa using this
theorem CutM.set2 (h : CutM B go gr gc cr cc nb Ab cb kf Ap np cp wrg rests cuts best W) {k : Nat} (hk : k < nb) (v : Int) : CutM B go gr gc cr cc nb Ab cb kf Ap np cp wrg (rests.set k v) cuts best (W.setCell ⟨gr, k, none⟩ (.int .i64 v)) := by
  obtain ⟨n1, n2, n3⟩ := h.ne
  exact ⟨h.blk.far (fun e => n1 e.symm) _, own_int_set h.o2 h.rl hk v, own_set h.o3 (fun k hk => by cases hk; exact n3.symm), by rw [List.length_set]; exact h.rl, h.cl, h.ne, h.ge⟩
theorem CutM.set3 (h : CutM B go gr gc cr cc nb Ab cb kf Ap np cp wrg rests cuts best W) {k : Nat} (hk : k < nb) (v : Int) : CutM B go gr gc cr cc nb Ab cb kf Ap np cp wrg rests (cuts.set k v) best (W.setCell ⟨gc, k, none⟩ (.int .i64 v)) := by
  obtain ⟨n1, n2, n3⟩ := h.ne
  exact ⟨h.blk.far (fun e => n2 e.symm) _, own_set h.o2 (fun k hk => by cases hk; exact n3), own_int_set h.o3 h.cl hk v, h.rl, by rw [List.length_set]; exact h.cl, h.ne, h.ge⟩
end
theorem set_back {xs : List Int} {k : Nat} {a b v : Int} (h : k < xs.length) (e : iAt xs k = v) (hb : b = v) : (xs.set k a).set k b = xs := by
  rw [List.set_set, hb, ← e]
  unfold iAt
  rw [List.getD_eq_getElem?_getD, List.getElem?_eq_getElem h]
  exact List.set_getElem_self h
theorem swOf_len {bs : List Br} {ps : List Pc} {kf : Int} {l : List Nat} : (swOf bs ps kf l).rests.length = bs.length ∧ (swOf bs ps kf l).cuts.length = bs.length := by simp [swOf]
/-- one bar for the next piece, as cut asks it -/
theorem cut_take {bs : List Br} {ps : List Pc} {kf wr : Int} {l : List Nat} {q : Nat} (h : l.length < ps.length) (hc : q < bs.length) (ha : okB bs ps kf wr l = true) :
    okB bs ps kf wr (l ++ [q]) = (fitS kf (swOf bs ps kf l) q (pcAt ps l.length).long && decide ((bif wrB bs ps l.length q then (1 : Int) else 0) ≤ wr - (wgB bs ps l : Nat))) := by
  rw [← tkS_of h hc ha]
  unfold tkS stS
  simp only [swOf, toI_len]
  congr 1
  cases wrB bs ps l.length q
  · simp only [cond_false]; exact decide_eq_decide.2 (by omega)
  · simp only [cond_true]; exact decide_eq_decide.2 (by omega)
theorem spans4 {W : World} {g1 g2 t : Nat} {a b c d : Value} (h1 : Blk W g1 t #[a, b]) (h2 : Blk W g2 t #[c, d]) (ne : g1 ≠ g2) (a' b' c' d' : Value) :
    Blk ((((W.setCell ⟨g1, 0, none⟩ a').setCell ⟨g1, 1, none⟩ b').setCell ⟨g2, 0, none⟩ c').setCell ⟨g2, 1, none⟩ d') g1 t #[a', b'] ∧ Blk ((((W.setCell ⟨g1, 0, none⟩ a').setCell ⟨g1, 1, none⟩ b').setCell ⟨g2, 0, none⟩ c').setCell ⟨g2, 1, none⟩ d') g2 t #[c', d'] ∧
      But3 g1 g2 g2 W ((((W.setCell ⟨g1, 0, none⟩ a').setCell ⟨g1, 1, none⟩ b').setCell ⟨g2, 0, none⟩ c').setCell ⟨g2, 1, none⟩ d') := by
  refine ⟨?_, ?_, ?_⟩
  · have h := (((h1.set_ 0 a').set_ 1 b').far (p := ⟨g2, 0, none⟩) ne c').far (p := ⟨g2, 1, none⟩) ne d'
    simpa using h
  · have h := (((h2.far (p := ⟨g1, 0, none⟩) ne.symm a').far (p := ⟨g1, 1, none⟩) ne.symm b').set_ 0 c').set_ 1 d'
    simpa using h
  · exact ((((But3.refl g1 g2 g2 W).trans (.set (p := ⟨g1, 0, none⟩) (.inl rfl) _)).trans (.set (p := ⟨g1, 1, none⟩) (.inl rfl) _)).trans (.set (p := ⟨g2, 0, none⟩) (.inr (.inl rfl)) _)).trans (.set (p := ⟨g2, 1, none⟩) (.inr (.inl rfl)) _)

end Go.Proofs.Ytdhlnlmhdacblaa

namespace Go.Proofs.Ytdhlnlmhdacblaa
open Go.RowKit
open Go.Sort (grow)
set_option linter.unusedVariables false
set_option linter.unusedSimpArgs false

theorem cnt_lAt {p : List Nat → Bool} {T : List (List Nat)} {k : Nat} (h : k < T.length) : cntL p T (k + 1) = cntL p T k + (bif p (lAt T k) then 1 else 0) :=
  cntL_succ (by unfold lAt; rw [List.getD_eq_getElem?_getD, List.getElem?_eq_getElem h]; rfl)
theorem trs_of {bs : List Br} {ps : List Pc} {kf wr : Int} {is : Bool} (h : askE bs ps kf wr is = 0) : is = true ∧ ckS bs ps kf wr = true ∧ trsL bs ps kf wr is = trL bs ps kf wr ∧ trL bs ps kf wr ≠ [] := by
  obtain ⟨hc, hi, -⟩ := askE_0 h
  subst hi
  refine ⟨rfl, hc, trs_ok hc, fun e => ?_⟩
  rw [askE_ok hc, if_pos e] at h
  cases h
section
variable (Ab Ap : Option Addr) (nb cb np cp : Nat) (kf wrg : Int) (bs : List Br) (ms : List Pm) (ps : List Pc) (w : World)
end

end Go.Proofs.Ytdhlnlmhdacblaa

namespace Go.Proofs.Ytdhlnlmhdacblaa
open Go.RowKit
open Go.Sort (grow)
set_option linter.unusedVariables false
set_option linter.unusedSimpArgs false

section
variable (Ab Ap : Option Addr) (nb cb np cp : Nat) (kf wrg : Int) (bs : List Br) (ms : List Pm) (ps : List Pc) (w : World)
/-- the span so far -/
def RsInv (f : List Nat → Int) (T : List (List Nat)) (k : Nat) (lo hi : Int) : Prop := (k = 0 ∧ lo = 0 ∧ hi = 0) ∨ (0 < k ∧ (∃ j, j < k ∧ f (lAt T j) = lo) ∧ (∃ j, j < k ∧ f (lAt T j) = hi) ∧ ∀ j, j < k → lo ≤ f (lAt T j) ∧ f (lAt T j) ≤ hi)
theorem RsInv.first {f : List Nat → Int} {T : List (List Nat)} : RsInv f T 1 (f (lAt T 0)) (f (lAt T 0)) :=
  .inr ⟨by omega, ⟨0, by omega, rfl⟩, ⟨0, by omega, rfl⟩, fun j hj => (by
    obtain rfl : j = 0 := by omega
    exact ⟨Int.le_refl _, Int.le_refl _⟩)⟩
theorem RsInv.step {f : List Nat → Int} {T : List (List Nat)} {k : Nat} {lo hi : Int} (h : RsInv f T k lo hi) (hk : k ≠ 0) : RsInv f T (k + 1) (min lo (f (lAt T k))) (max hi (f (lAt T k))) := by
  rcases h with ⟨h, -⟩ | ⟨h0, ⟨j1, hj1, e1⟩, ⟨j2, hj2, e2⟩, h3⟩
  · exact absurd h hk
  · refine .inr ⟨Nat.succ_pos k, ?_, ?_, fun j hj => ?_⟩
    · rcases Int.le_total lo (f (lAt T k)) with c | c
      · exact ⟨j1, Nat.lt_succ_of_lt hj1, by rw [e1, Int.min_eq_left c]⟩
      · exact ⟨k, Nat.lt_succ_self k, by rw [Int.min_eq_right c]⟩
    · rcases Int.le_total hi (f (lAt T k)) with c | c
      · exact ⟨k, Nat.lt_succ_self k, by rw [Int.max_eq_right c]⟩
      · exact ⟨j2, Nat.lt_succ_of_lt hj2, by rw [e2, Int.max_eq_left c]⟩
    · rcases Nat.lt_succ_iff_lt_or_eq.1 hj with h' | rfl
      · have := h3 j h'
        exact ⟨Int.le_trans (Int.min_le_left _ _) this.1, Int.le_trans this.2 (Int.le_max_left _ _)⟩
      · exact ⟨Int.min_le_right _ _, Int.le_max_right _ _⟩
theorem rest_end {bar lo hi : Int} (hi' : RsInv (fun l => rsB bs ps kf l bar.toNat) (trsL bs ps kf wrg (wi bar 0 ((bs.length : Int) - 1))) (trsL bs ps kf wrg (wi bar 0 ((bs.length : Int) - 1))).length lo hi) :
    restP bs ps kf wrg bar = (⟨lo, hi⟩, askE bs ps kf wrg (wi bar 0 ((bs.length : Int) - 1))) := by
  by_cases hz : askE bs ps kf wrg (wi bar 0 ((bs.length : Int) - 1)) = 0
  · obtain ⟨hi, hc, ht, hne⟩ := trs_of hz
    have rb := wi_true.1 hi
    obtain ⟨b, rfl⟩ := Int.eq_ofNat_of_zero_le rb.1
    have hb : b < bs.length := by omega
    rw [hz, rest_ok hc hb, if_neg hne]
    rw [ht, Int.toNat_natCast] at hi'
    obtain ⟨a1, a2, a3⟩ := spF_mem (L := (trL bs ps kf wrg).map fun l => rsB bs ps kf l b) (by simpa using hne) (fun x hx => by
      obtain ⟨l, hl, rfl⟩ := List.mem_map.1 hx
      exact rs_bd hc hl hb)
    rcases hi' with ⟨h, -⟩ | ⟨-, ⟨j1, hj1, e1⟩, ⟨j2, hj2, e2⟩, h3⟩
    · exact absurd (List.eq_nil_of_length_eq_zero h) hne
    · have m1 : lo ∈ (trL bs ps kf wrg).map fun l => rsB bs ps kf l b := List.mem_map.2 ⟨_, lAt_mem hj1, e1⟩
      have m2 : _ ∈ (trL bs ps kf wrg).map fun l => rsB bs ps kf l b := List.mem_map.2 ⟨_, lAt_mem hj2, e2⟩
      have key : ∀ x ∈ (trL bs ps kf wrg).map fun l => rsB bs ps kf l b, ∃ j, j < (trL bs ps kf wrg).length ∧ rsB bs ps kf (lAt (trL bs ps kf wrg) j) b = x := fun x hx => by
        obtain ⟨l, hl, rfl⟩ := List.mem_map.1 hx
        obtain ⟨i, hi, rfl⟩ := List.getElem_of_mem hl
        have e : lAt (trL bs ps kf wrg) i = (trL bs ps kf wrg)[i] := by unfold lAt; rw [List.getD_eq_getElem?_getD, List.getElem?_eq_getElem hi]; rfl
        exact ⟨i, hi, by rw [e]⟩
      obtain ⟨i1, hi1, f1⟩ := key _ a1
      obtain ⟨i2, hi2, f2⟩ := key _ a2
      have b1 := (h3 i1 hi1).1
      have b2 := (h3 i2 hi2).2
      have c1 := (a3 _ m1).1
      have c2 := (a3 _ m2).2
      simp only at f1 f2 b1 b2
      obtain ⟨S, hS⟩ : ∃ S, ((trL bs ps kf wrg).map fun l => rsB bs ps kf l b).foldl spF ⟨999, 0⟩ = S := ⟨_, rfl⟩
      rw [hS] at f1 f2 c1 c2 ⊢
      obtain ⟨sl, sh⟩ := S
      simp only at f1 f2 c1 c2
      congr 1
      congr 1 <;> omega
  · have e0 : trsL bs ps kf wrg (wi bar 0 ((bs.length : Int) - 1)) = [] := by
      unfold trsL
      rw [show (askE bs ps kf wrg (wi bar 0 ((bs.length : Int) - 1)) == 0) = false by rw [beq_eq_false_iff_ne]; exact hz]; rfl
    rw [e0] at hi'
    unfold restP
    rw [show (askE bs ps kf wrg (wi bar 0 ((bs.length : Int) - 1)) == 0) = false by rw [beq_eq_false_iff_ne]; exact hz]
    rcases hi' with ⟨-, rfl, rfl⟩ | ⟨h, -⟩
    · rfl
    · simp at h
end

end Go.Proofs.Ytdhlnlmhdacblaa

namespace Go.Proofs.Ytdhlnlmhdacblaa
open Go.RowKit
open Go.Sort (grow)
set_option linter.unusedVariables false
set_option linter.unusedSimpArgs false

section
variable {bs : List Br} {ps : List Pc} {kf wr : Int}
theorem lAt_get {T : List (List Nat)} {i : Nat} (h : i < T.length) : lAt T i = T[i] := by unfold lAt; rw [List.getD_eq_getElem?_getD, List.getElem?_eq_getElem h]; rfl
theorem RsInv.ends {f : List Nat → Int} {T : List (List Nat)} {lo hi : Int} (h : RsInv f T T.length lo hi) (hne : T ≠ []) : (∃ l ∈ T, f l = lo) ∧ (∃ l ∈ T, f l = hi) ∧ ∀ l ∈ T, lo ≤ f l ∧ f l ≤ hi := by
  rcases h with ⟨h, -⟩ | ⟨-, ⟨j1, hj1, e1⟩, ⟨j2, hj2, e2⟩, h3⟩
  · exact absurd (List.eq_nil_of_length_eq_zero h) hne
  · refine ⟨⟨_, lAt_mem hj1, e1⟩, ⟨_, lAt_mem hj2, e2⟩, fun l hl => ?_⟩
    obtain ⟨i, hi, rfl⟩ := List.getElem_of_mem hl
    have := h3 i hi
    rw [lAt_get hi] at this
    exact this
/-- the spans of the specification are those that the program reckons from the least and the greatest number -/
theorem sawn_law (h : ckS bs ps kf wr = true) (hne : trL bs ps kf wr ≠ []) {lo : Nat} (hlo : leastP bs ps kf wr = (lo : Int)) {cl ch rl rh : Int}
    (hc : RsInv (kfC bs.length kf) (trL bs ps kf wr) (trL bs ps kf wr).length cl ch) (hr : RsInv (rsT bs ps kf) (trL bs ps kf wr) (trL bs ps kf wr).length rl rh) :
    cl = kf * ((ps.length : Int) - (cutV bs ps kf wr ps.length [] lo : Nat)) ∧ ch = kf * ((ps.length : Int) - lo) ∧ rl = brS bs - pcS ps - ch ∧ rh = brS bs - pcS ps - cl := by
  have hk := (ckS_vals h).2.2.1.1
  obtain ⟨h1, hm⟩ : (∃ l ∈ trL bs ps kf wr, usL bs.length l = lo) ∧ ∀ l ∈ trL bs ps kf wr, lo ≤ usL bs.length l := by
    rcases least_ok h with ⟨e, -⟩ | ⟨l, hl, e, hm⟩
    · exact absurd e hne
    · have : usL bs.length l = lo := by rw [e] at hlo; omega
      exact ⟨⟨l, hl, this⟩, fun m hm' => by rw [← this]; exact hm m hm'⟩
  obtain ⟨b1, b2⟩ := cut_best h h1
  obtain ⟨best, hb⟩ : ∃ b, cutV bs ps kf wr ps.length [] lo = b := ⟨_, rfl⟩
  rw [hb] at b1 b2 ⊢
  have key : ∀ l ∈ trL bs ps kf wr, kfC bs.length kf l = kf * ((ps.length : Int) - (usL bs.length l : Nat)) ∧ rsT bs ps kf l = brS bs - pcS ps - kfC bs.length kf l := fun l hl => by
    obtain ⟨⟨k1, k2⟩, -⟩ := trL_mem.1 hl
    exact ⟨by rw [kfC_eq k2, k1], rsT_eq k1 k2⟩
  obtain ⟨s1, s2, s3⟩ := sawn_ends (np := ps.length) (kf := kf) (L := 0) hk (fun l hl => ⟨hm l hl, b1 l hl⟩) h1 b2
  obtain ⟨⟨u1, hu1, e1⟩, ⟨u2, hu2, e2⟩, c3⟩ := hc.ends hne
  obtain ⟨⟨v1, hv1, f1⟩, ⟨v2, hv2, f2⟩, r3⟩ := hr.ends hne
  obtain ⟨m1, hm1, g1⟩ := s2
  obtain ⟨m2, hm2, g2⟩ := s3
  have a1 := c3 m1 hm1
  have a2 := c3 m2 hm2
  have a3 := s1 u1 hu1
  have a4 := s1 u2 hu2
  rw [(key m1 hm1).1] at a1
  rw [(key m2 hm2).1] at a2
  rw [(key u1 hu1).1] at e1
  rw [(key u2 hu2).1] at e2
  have ecl : cl = kf * ((ps.length : Int) - (best : Nat)) := by omega
  have ech : ch = kf * ((ps.length : Int) - lo) := by omega
  have b3 := r3 m1 hm1
  have b4 := r3 m2 hm2
  have b5 := c3 v1 hv1
  have b6 := c3 v2 hv2
  rw [(key m1 hm1).2, (key m1 hm1).1] at b3
  rw [(key m2 hm2).2, (key m2 hm2).1] at b4
  rw [(key v1 hv1).2] at f1
  rw [(key v2 hv2).2] at f2
  refine ⟨ecl, ech, ?_, ?_⟩ <;> omega
end

end Go.Proofs.Ytdhlnlmhdacblaa

namespace Go.Proofs.Ytdhlnlmhdacblaa
open Go.RowKit
open Go.Sort (grow)
set_option linter.unusedVariables false
set_option linter.unusedSimpArgs false

def exB : List Br := [⟨3, 100⟩, ⟨5, 60⟩, ⟨3, 45⟩]
def exP : List Pc := [⟨50, [3, 5]⟩, ⟨45, [3]⟩, ⟨40, [3, 8]⟩]
theorem ev_ask (is : Bool) (h : is = true) : askE exB exP 5 0 is = 0 := by subst h; kernel_rfl
theorem ev_many : manyR exB exP 5 0 = 5 := by kernel_rfl
theorem ev_of : ofP exB exP 5 0 1 = [0, 2] := by kernel_rfl
theorem ev_rest : restP exB exP 5 0 0 = (⟨0, 60⟩, 0) := by kernel_rfl
theorem ev_room : roomP exB exP 5 0 50 = (3, 0) := by kernel_rfl
theorem ev_plan : planP exB exP 5 0 = [0, 0, 2] := by kernel_rfl
theorem ev_least : leastP exB exP 5 0 = 2 := by
  have h : ∀ v ∈ planP exB exP 5 0, ∃ k : Nat, k < 3 ∧ v = (k : Int) := by
    rw [ev_plan]
    intro v hv
    simp at hv
    rcases hv with rfl | rfl
    · exact ⟨0, by omega, rfl⟩
    · exact ⟨2, by omega, rfl⟩
  unfold leastP
  show ((srtC (planP exB exP 5 0)).length : Int) = 2
  rw [srtC_upto h, uptoL_len, ev_plan]
  decide

theorem sl_cells {α : Type} {enc : α → List Value} {size : Nat} {d : α} (hs : ∀ x, (enc x).length = size) {w : World} {cs : Array Value} {ys : List α} {g m : Nat} (hg : g < w.heap.size) (hc : ∀ i, w.cell? ⟨g, i, none⟩ = cs[i]?) (hl : ys.length = m) (hcs : cs.toList = ys.flatMap enc) :
    SlAt enc size d w (some ⟨g, 0, none⟩) m ys := by
  refine ⟨hl, fun _ => ⟨g, 0, rfl, hg, fun k hk j u hu => ?_⟩⟩
  have hj : j < size := by
    have := (List.getElem?_eq_some_iff.1 hu).1
    rwa [hs] at this
  rw [hc, Nat.zero_add, ← Array.getElem?_toList, hcs, flat_get (d := d) hs ys k j hj (by omega)]
  exact hu
set_option maxRecDepth 100000 in
set_option maxHeartbeats 1600000 in
theorem Example_c (w : World) :
    Calls Try.prog 32 #[] w fun e w' => ∃ A1 A2 ms, e = .returned (.agg #[.slice A1 3 3, .int .i64 5, .slice A2 3 3, .int .i64 0]) ∧ BrsAt w' A1 3 exB ∧ PcsAt w' A2 3 ms exP ∧ Below w.heap.size w w' := by
  go_enter Try.func32, Try.ntmps32
  go_wp2_with fail
  obtain ⟨W, hW⟩ : ∃ W, (((((w.alloc (.cells #[.slice (some ⟨w.heap.size + 1, 0, none⟩) 3 3, .int .i64 5, .slice (some ⟨w.heap.size + 1 + 1 + 1 + 1 + 1, 0, none⟩) 3 3, .int .i64 0] 25)).alloc (.cells #[.int .i64 3, .int .i64 100, .int .i64 5, .int .i64 60, .int .i64 3, .int .i64 45] 35)).alloc (.cells #[.int .i64 3, .int .i64 5] 3)).alloc (.cells #[.int .i64 3] 3)).alloc (.cells #[.int .i64 3, .int .i64 8] 3)).alloc (.cells #[.int .i64 50, .slice (some ⟨w.heap.size + 1 + 1, 0, none⟩) 2 2, .int .i64 45, .slice (some ⟨w.heap.size + 1 + 1 + 1, 0, none⟩) 1 1, .int .i64 40, .slice (some ⟨w.heap.size + 1 + 1 + 1 + 1, 0, none⟩) 2 2] 38) = W := ⟨_, rfl⟩
  rw [hW]
  have BW : Below w.heap.size w W := (al6 hW).1
  have c0 := (al6_0 hW).2.1
  have s1 := (al6_1 hW)
  have s2 := (al6_2 hW)
  have s3 := (al6_3 hW)
  have s4 := (al6_4 hW)
  have s5 := (al6_5 hW)
  have i2 : IntsAt W (some ⟨w.heap.size + 1 + 1, 0, none⟩) 2 [3, 5] := ints_iff.2 (sl_cells encI_len s2.1 s2.2.1 rfl rfl)
  have i3 : IntsAt W (some ⟨w.heap.size + 1 + 1 + 1, 0, none⟩) 1 [3] := ints_iff.2 (sl_cells encI_len s3.1 s3.2.1 rfl rfl)
  have i4 : IntsAt W (some ⟨w.heap.size + 1 + 1 + 1 + 1, 0, none⟩) 2 [3, 8] := ints_iff.2 (sl_cells encI_len s4.1 s4.2.1 rfl rfl)
  have hp : PcsAt W (some ⟨w.heap.size + 1 + 1 + 1 + 1 + 1, 0, none⟩) 3 [⟨50, ⟨some ⟨w.heap.size + 1 + 1, 0, none⟩, 2, 2⟩⟩, ⟨45, ⟨some ⟨w.heap.size + 1 + 1 + 1, 0, none⟩, 1, 1⟩⟩, ⟨40, ⟨some ⟨w.heap.size + 1 + 1 + 1 + 1, 0, none⟩, 2, 2⟩⟩] exP := by
    refine ⟨sl_cells encP_len s5.1 s5.2.1 rfl rfl, rfl, fun k hk => ?_, fun k hk => ?_⟩
    · match k, hk with
      | 0, _ => rfl
      | 1, _ => rfl
      | 2, _ => rfl
    · match k, hk with
      | 0, _ => exact i2
      | 1, _ => exact i3
      | 2, _ => exact i4
  exact bodyPost_ret (v := .agg #[.slice (some ⟨w.heap.size + 1, 0, none⟩) 3 3, .int .i64 5, .slice (some ⟨w.heap.size + 1 + 1 + 1 + 1 + 1, 0, none⟩) 3 3, .int .i64 0]) (by simp [results, Try.results32, go_sem, c0]) rfl ⟨_, _, _, rfl, sl_cells encB_len s1.1 s1.2.1 rfl rfl, hp, BW⟩

theorem ev_same1 : (2 == 2 && allN 2 fun k => iAt [0, 2] k == iAt [0, 2] k) = true := by decide
theorem ex_h3 : ∀ k, k < 3 → (pcAt exP k).hs.length ≤ 40 := by
  intro k hk
  match k, hk with
  | 0, _ => decide
  | 1, _ => decide
  | 2, _ => decide

end Go.Proofs.Ytdhlnlmhdacblaa
